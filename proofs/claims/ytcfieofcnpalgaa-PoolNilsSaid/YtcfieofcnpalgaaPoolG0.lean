/-
  Parts of the proof of PoolNils.
-/
import Derived.WalkKit
import Derived.WalkSpells
import Derived.WalkLawsBesides
import Derived.Lib.Hide
import Derived.Deep.Draws
import Derived.Deep.QuietTactic
import Derived.BigQuiet
import Derived.Test.YtcfieofcnpalgaaProg
import Derived.ProofKit
import Derived.OpenShut
import Derived.ShutString
import Derived.ChangeOld
import Derived.Laws.IdiomStrings
import Derived.Laws.BytesString
import Derived.Lib.BufferRead
import Derived.Laws.CopyOwn
import Derived.Laws.IdiomCopy
import Derived.Maps.AppendAt
import Derived.Deep.AppendLies
import Derived.Deep.RegionHeld3
import Derived.Deep.Heap
import Derived.Laws.BitsAllLaws
import Derived.Deep.WholeRow
import Derived.Laws.StructEq
import Derived.ChangeKeysEq
section
namespace Go.Proofs.Ytcfieofcnpalgaa

/-- what a key has -/
structure Cell where
  kind : Int
  data : List UInt8
  lo : Int
  hi : Int
  val : Int

/-- an operation -/
structure OpX where
  act : Int
  key : ByteArray
  data : List UInt8
  lo : Int
  hi : Int
  n : Int

/-- a slot -/
structure Item where
  state : Int
  key : ByteArray
  cell : Cell

/-- how an operation is taken back -/
structure Undo where
  act : Int
  key : ByteArray
  item : Item
  n : Int

/-- a number of 64 bits -/
def In64 (n : Int) : Prop := -9223372036854775808 ≤ n ∧ n ≤ 9223372036854775807
end Go.Proofs.Ytcfieofcnpalgaa
end
section
namespace Go.Proofs.Ytcfieofcnpalgaa
open Go.RowKit

/-- one call behind another: nothing that lay before the first has turned -/
theorem bstep {a b c : World} (h : Below a.heap.size a b) (k : Below b.heap.size b c) : Below a.heap.size a c := h.trans (k.mono h.size)
theorem bsame (a : World) : Below a.heap.size a a := Below.refl _ _
theorem balloc {a b : World} (h : Below a.heap.size a b) (o : Obj) : Below a.heap.size a (b.alloc o) := h.alloc h.size o
/-- what lay before a call reads behind it as it did: as rules for the walk -/
theorem bcell {W w1 : World} (hb : Below W.heap.size W w1) : (∀ b o, b < W.heap.size → w1.cell? ⟨b, o, none⟩ = W.cell? ⟨b, o, none⟩) ∧ (∀ b o, b < W.heap.size → w1.frozen? ⟨b, o, none⟩ = W.frozen? ⟨b, o, none⟩) :=
  ⟨fun b o h => hb.cell (p := ⟨b, o, none⟩) h, fun b o h => hb.frozen (p := ⟨b, o, none⟩) h⟩
/-- a byte as a value -/
def byteV (b : UInt8) : Value := .int .u8 (b.toNat : Int)
theorem byteV_one (l : List UInt8) : ∀ v ∈ l.map byteV, v.oneCell' = true := by
  intro v hv
  obtain ⟨b, _, rfl⟩ := List.mem_map.1 hv
  rfl
/-- so many zero bytes -/
def zerosV (n : Nat) : List Value := List.replicate n (.int .u8 0)
theorem zerosV_length (n : Nat) : (zerosV n).length = n := by simp [zerosV]
/-- the slice (A, n, c) reads as the bytes l, all below block B; nil and empty slices let in -/
def Bytes (w : World) (B : Nat) (A : Option Addr) (n c : Nat) (l : List UInt8) : Prop :=
  l.length = n ∧ n ≤ c ∧ c ≤ maxLen ∧ (0 < n → ∃ b o, A = some ⟨b, o, none⟩ ∧ b < B ∧ ∀ j u, l[j]? = some u → w.cell? ⟨b, o + j, none⟩ = some (byteV u))

section
variable {w w' : World} {B B' n c : Nat} {A : Option Addr} {l : List UInt8}
theorem Bytes.none_ (w : World) (B : Nat) : Bytes w B none 0 0 [] := ⟨rfl, Nat.le_refl _, by unfold maxLen; omega, fun h => absurd h (by omega)⟩
theorem Bytes.keep (h : Bytes w B A n c l) (hk : ∀ p : Addr, p.block < B → w'.cell? p = w.cell? p) : Bytes w' B A n c l :=
  ⟨h.1, h.2.1, h.2.2.1, fun hn => by
    obtain ⟨b, o, e, hb, hc⟩ := h.2.2.2 hn
    exact ⟨b, o, e, hb, fun j u hu => (hk _ hb).trans (hc j u hu)⟩⟩
theorem Bytes.more (h : Bytes w B A n c l) (hB : B ≤ B') : Bytes w B' A n c l :=
  ⟨h.1, h.2.1, h.2.2.1, fun hn => by
    obtain ⟨b, o, e, hb, hc⟩ := h.2.2.2 hn
    exact ⟨b, o, e, by omega, hc⟩⟩
theorem Bytes.below (h : Bytes w B A n c l) (hb : Below B w w') : Bytes w' B A n c l := h.keep fun _ hp => hb.cell hp
/-- a slice that was there lies there behind a call -/
theorem Bytes.next (h : Bytes w w.heap.size A n c l) (hb : Below w.heap.size w w') : Bytes w' w'.heap.size A n c l := (h.below hb).more hb.size
theorem Bytes.drewN (h : Bytes w B A n c l) (k : Nat) : Bytes (w.drewN k) B A n c l := h
theorem Bytes.alloc (h : Bytes w B A n c l) (hB : B ≤ w.heap.size) (o : Obj) : Bytes (w.alloc o) B A n c l := h.keep fun p hp => World.cell?_alloc_lt w o p (by omega)
theorem add_none (b o j : Nat) : (⟨b, o, none⟩ : Addr).add j = ⟨b, o + j, none⟩ := by unfold Addr.add; split <;> simp_all
/-- as the library's laws on a source ask it -/
theorem Bytes.src (h : Bytes w B A n c l) : 0 < (l.map byteV).length → ∃ ad, A = some ad ∧ ∀ j v, (l.map byteV)[j]? = some v → w.cell? (ad.add j) = some v := by
  intro hl
  obtain ⟨b, o, e, _, hc⟩ := h.2.2.2 (by have := h.1; simp at hl; omega)
  refine ⟨_, e, fun j v hv => ?_⟩
  rw [List.getElem?_map, Option.map_eq_some_iff] at hv
  obtain ⟨u, hu, rfl⟩ := hv
  rw [add_none]
  exact hc j u hu
/-- what a call owns reads as bytes -/
theorem Bytes.of_own {base : Nat} {e : TypeId} {v : Value} {k : Nat} (h : w.ownsRow base e 1 v k (l.map byteV)) : ∃ A n c, v = .slice A n c ∧ Bytes w w.heap.size A n c l := by
  obtain ⟨hl, h2⟩ := h
  have hk : l.length = k := by simpa using hl
  rcases h2 with ⟨rfl, h0⟩ | ⟨g, cap, cur, rfl, _, hg, hnc, hm, hsz, htk⟩
  · have : l = [] := List.eq_nil_of_length_eq_zero (by omega)
    subst this
    exact ⟨none, 0, 0, rfl, Bytes.none_ _ _⟩
  · refine ⟨_, _, _, rfl, hk, hnc, hm, fun hn => ⟨g, 0, rfl, (Array.getElem?_eq_some_iff.1 hg).1, fun j u hu => ?_⟩⟩
    have hj : j < l.length := (List.getElem?_eq_some_iff.1 hu).1
    have hx := congrArg (·[j]?) htk
    simp only [List.getElem?_take, List.getElem?_map, hu, Option.map_some] at hx
    rw [if_pos (by omega)] at hx
    unfold World.cell?
    simp only [hg, Nat.zero_add]
    simpa using hx
theorem Bytes.len (h : Bytes w B A n c l) : l.length = n := h.1
theorem Bytes.at_ {k : Nat} (h : Bytes w B A n c l) (hk : k < n) : ∃ b o, A = some ⟨b, o, none⟩ ∧ b < B ∧ w.cell? ⟨b, o + k, none⟩ = some (byteV (l[k]'(by rw [h.1]; exact hk))) := by
  obtain ⟨b, o, e, hb, hc⟩ := h.2.2.2 (by omega)
  exact ⟨b, o, e, hb, hc k _ (List.getElem?_eq_getElem _)⟩
end

/-- the call hands back a slice that reads as l -/
def GivesBytes (w : World) (l : List UInt8) (e : Ending) (w' : World) : Prop := ∃ A n c, e = .returned (.slice A n c) ∧ Bytes w' w'.heap.size A n c l ∧ Below w.heap.size w w'
/-- a cell as a value -/
def RCell (w : World) (B : Nat) (v : Value) (c : Cell) : Prop :=
  ∃ A n cap, v = .agg #[.int .i64 c.kind, .slice A n cap, .int .i64 c.lo, .int .i64 c.hi, .int .i64 c.val] ∧ Bytes w B A n cap c.data ∧ In64 c.kind ∧ In64 c.lo ∧ In64 c.hi ∧ In64 c.val
theorem RCell.next {w w' : World} {v : Value} {c : Cell} (h : RCell w w.heap.size v c) (hb : Below w.heap.size w w') : RCell w' w'.heap.size v c := by
  obtain ⟨A, n, cap, e, hB, r⟩ := h
  exact ⟨A, n, cap, e, hB.next hb, r⟩
/-- an operation as a value -/
def ROp (w : World) (B : Nat) (v : Value) (x : OpX) : Prop :=
  ∃ A n cap, v = .agg #[.int .i64 x.act, .string x.key, .slice A n cap, .int .i64 x.lo, .int .i64 x.hi, .int .i64 x.n] ∧ Bytes w B A n cap x.data ∧ x.key.size ≤ maxLen ∧ In64 x.act ∧ In64 x.lo ∧ In64 x.hi ∧ In64 x.n
theorem ROp.next {w w' : World} {v : Value} {x : OpX} (h : ROp w w.heap.size v x) (hb : Below w.heap.size w w') : ROp w' w'.heap.size v x := by
  obtain ⟨A, n, cap, e, hB, r⟩ := h
  exact ⟨A, n, cap, e, hB.next hb, r⟩
end Go.Proofs.Ytcfieofcnpalgaa
end
section
namespace Go.Proofs.Ytcfieofcnpalgaa
open Go.ChangeShapes Go.WideShapes Go.ChangeAt Go.RowKit
open Go.ChangeMaps (open_string shut_string)
set_option linter.unusedVariables false
set_option maxRecDepth 100000

def RInt (w : World) (v : Value) (n : Int) : Prop := v = .int .i64 n ∧ -9223372036854775808 ≤ n ∧ n ≤ 9223372036854775807
section
variable {H : Type} {enc : TypeId × Value → H} {W : World} {base : Nat} {v : Value} {d : DataW H} {p : List MemPlace}
theorem open_i64 (hv : Value.okWide Try.prog W .any base 3 v) (h : DataW.Trod enc Try.prog W 0 (fun _ => true) true 3 v d p) : ∃ n, RInt W v n := by
  obtain ⟨n, rfl, _, _, hs⟩ := open_int Try.underlying3 hv h
  have hx : -9223372036854775808 ≤ n ∧ n ≤ 9223372036854775807 := by simpa [Lit.wf, IntKind.min, IntKind.max, IntKind.signed, IntKind.bits] using hs
  exact ⟨n, rfl, hx⟩
end
section
variable {H : Type} {enc : TypeId × Value → H} {P : Program} {w : World}
end
section
variable {H : Type} {enc : TypeId × Value → H} {W : World} {base : Nat} {v : Value} {d : DataW H} {p : List MemPlace}
end
theorem own : ownKnob Try.prog.godebug = none := by kernel_rfl
theorem laidOut : laidOutB Try.prog = true := by kernel_rfl
end Go.Proofs.Ytcfieofcnpalgaa
end
section
namespace Go.Proofs.Ytcfieofcnpalgaa
open Go.RowKit

/-- bytes as a string -/
def strOf (l : List UInt8) : ByteArray := ⟨l.toArray⟩
theorem strOf_data (l : List UInt8) : (strOf l).data.toList = l := by simp [strOf]
/-- 'string(b)' -/
theorem run_str {P : Program} {w : World} {B n c : Nat} {A : Option Addr} {l : List UInt8} (src dst e : TypeId) (hs : P.underlying src = some (.slice e)) (he : P.underlying e = some (.int .u8)) (hd : P.underlying dst = some .string)
    (h : Bytes w B A n c l) : (convert src dst (.slice A n c)).run P w = .ok (.string (strOf l)) w := by
  obtain ⟨rfl, hc, hm, hx⟩ := h
  rcases A with _ | a
  · have hl : l.length = 0 := by
      rcases Nat.eq_zero_or_pos l.length with h0 | h0
      · exact h0
      · obtain ⟨b, o, e, _⟩ := hx h0
        cases e
    have : l = [] := List.eq_nil_of_length_eq_zero hl
    subst this
    exact Lib.run_convert_nil_bytes w src dst e c hs he hd
  · refine run_convert_bytes_back w src dst e a c l hs he hd (fun j hj => ?_)
    obtain ⟨b, o, e, _, hcell⟩ := hx (by omega)
    cases e
    have := hcell j l[j] (List.getElem?_eq_getElem hj)
    rw [show (⟨b, o, none⟩ : Addr).add j = ⟨b, o + j, none⟩ by unfold Addr.add; split <;> simp_all]
    exact this

theorem grown_setRow (w : World) (g : Nat) (cs : Array Value) : w.grownBy (w.setRow g cs) (some g) :=
  ⟨rfl, rfl, rfl, by simp [World.setRow], fun k _ hk => setRow_other w g k cs (fun e => hk (by rw [e]))⟩
/-- copy into a block that is known whole -/
theorem run_copy_to {P : Program} {w : World} (dT sT ty elem : TypeId) (hu : P.underlying dT = some (.slice elem)) (hsz : (P.info? elem).map (·.size) = some 1)
    (dp : Option Addr) (dLen dCap : Nat) (g off : Nat) (cur : List Value) (t : TypeId) (hg : w.heap[g]? = some (.cells cur.toArray t (0, 0)))
    (sp : Option Addr) (sLen sCap : Nat) (cs : List Value) (hn : cs.length = Nat.min sLen dLen)
    (hpos : 0 < cs.length → dp = some ⟨g, off, none⟩ ∧ ∃ ad, sp = some ad ∧ ∀ j v, cs[j]? = some v → w.cell? (ad.add j) = some v)
    (hfit : off + cs.length ≤ cur.length) (h1 : ∀ v ∈ cs, v.oneCell' = true) :
    ∃ w1, (Builtin.copy_ #[dT, sT] ty #[.slice dp dLen dCap, .slice sp sLen sCap]).run P w = .ok (goInt cs.length) w1 ∧ w1.heap[g]? = some (.cells (splice cur off cs).toArray t (0, 0)) ∧ w.grownBy w1 (some g) := by
  by_cases h0 : cs.length = 0
  · obtain rfl : cs = [] := List.eq_nil_of_length_eq_zero h0
    exact ⟨w, run_copy_none w dT sT ty elem dp sp dLen dCap sLen sCap hu hsz (by simpa using hn.symm), by simpa [splice] using hg, World.grownBy.refl w _⟩
  · obtain ⟨rfl, ad, rfl, hsrc⟩ := hpos (by omega)
    exact ⟨_, run_copy_row P w dT sT ty elem g off dLen dCap ad sLen sCap cur.toArray t cs hu hsz hg hn hsrc (by simpa using hfit) h1, by simpa [splice] using setRow_heap w g _ _ t _ hg, grown_setRow w g _⟩

/-- what is owned stays owned behind a call -/
theorem own_next {w w' : World} {base : Nat} {e : TypeId} {size n : Nat} {v : Value} {xs : List Value} (h : w.ownsRow base e size v n xs) (hb : Below w.heap.size w w') : w'.ownsRow base e size v n xs := by
  obtain ⟨h1, h2⟩ := h
  refine ⟨h1, ?_⟩
  rcases h2 with h2 | ⟨g, cap, cur, hv, hg, hh, r⟩
  · exact .inl h2
  · exact .inr ⟨g, cap, cur, hv, hg, (hb.block g (Array.getElem?_eq_some_iff.1 hh).1).trans hh, r⟩

theorem own_slice {w : World} {base : Nat} {e : TypeId} {size n : Nat} {v : Value} {xs : List Value} (h : w.ownsRow base e size v n xs) : ∃ A c, v = .slice A n c := by
  rcases h.2 with ⟨rfl, rfl⟩ | ⟨g, cap, cur, rfl, _⟩
  · exact ⟨_, _, rfl⟩
  · exact ⟨_, _, rfl⟩
theorem own_block {w : World} {base : Nat} {e : TypeId} {size n : Nat} {v : Value} {xs : List Value} (h : w.ownsRow base e size v n xs) : ∀ k, v.ownBlock = some k → base ≤ k := by
  intro k hk
  rcases h.2 with ⟨rfl, _⟩ | ⟨g, cap, cur, rfl, hg, _⟩
  · simp [Value.ownBlock] at hk
  · obtain rfl : g = k := by simpa [Value.ownBlock] using hk
    exact hg
/-- an append under a name that the walk does not look behind: a text that has 'app_fold' among its rules meets each append by an equation on its run -/
def appSem (ts : Array TypeId) (ty : TypeId) (args : Array Value) : Sem Value := Builtin.append_ ts ty args
theorem app_fold (ts : Array TypeId) (ty : TypeId) (args : Array Value) : Builtin.append_ ts ty args = appSem ts ty args := rfl

/-- append onto a row of the call's own; the source is nil, empty or not -/
theorem run_append_bytes {P : Program} (w : World) (base : Nat) (t ty e : TypeId) (i : TypeInfo) (z : Value) (ht : P.underlying t = some (.slice e)) (hi : P.info? e = some i) (hz : i.zero = some z)
    (hsize : i.size = 1) (hby : i.bytes = 1) (hzs : z.cells.size = 1) (v : Value) (n : Nat) (xs : List Value) (hown : w.ownsRow base e 1 v n xs)
    (B : Nat) (A : Option Addr) (m c : Nat) (l : List UInt8) (hr : Bytes w B A m c l) (hbytes : n + m ≤ 140737488355328) (hbase : base ≤ w.heap.size) :
    ∃ v' w', (appSem #[t, t] ty #[v, .slice A m c]).run P w = .ok v' w' ∧ w'.ownsRow base e 1 v' (n + m) (xs ++ l.map byteV) ∧ w.grownBy w' v.ownBlock := by
  have hm : l.length = m := hr.1
  rcases A with _ | ad
  · have h0 : m = 0 := by
      rcases Nat.eq_zero_or_pos m with h0 | h0
      · exact h0
      · obtain ⟨b, o, h, _⟩ := hr.2.2.2 h0
        cases h
    subst h0
    have hn : l = [] := List.eq_nil_of_length_eq_zero hm
    subst hn
    refine ⟨v, w, ?_, by simpa using hown, World.grownBy.refl w _⟩
    unfold appSem
    rcases hown.2 with ⟨rfl, rfl⟩ | ⟨g, cap, cur, rfl, _, _, hnc, _⟩
    · simp [Builtin.append_, run_underlying ht, sizeOf, typeInfo, hi, Builtin.lenOf, Builtin.firstCells]
    · simp [Builtin.append_, run_underlying ht, sizeOf, typeInfo, hi, Builtin.lenOf, Builtin.firstCells, hnc, storeCells]
  · have hcells : ∀ j u, (l.map byteV)[j]? = some u → w.cell? (ad.add j) = some u := by
      intro j u hu
      have hpos : 0 < (l.map byteV).length := Nat.lt_of_le_of_lt (Nat.zero_le _) (List.getElem?_eq_some_iff.1 hu).1
      obtain ⟨ad', e1, h2⟩ := hr.src hpos
      cases e1
      exact h2 j u hu
    obtain ⟨v', w', hrun, h2, h3, _, _⟩ := run_append_own_at (P := P) w base t ty e i z 1 1 ht hi hz hsize hby hzs (by decide) v n xs hown ad m c (l.map byteV) (by simp [hm]) hcells (byteV_one l) (by unfold maxLen; omega) (by omega) hbase
    exact ⟨v', w', hrun, h2, h3⟩
end Go.Proofs.Ytcfieofcnpalgaa
end
section
namespace Go.Proofs.Ytcfieofcnpalgaa
open Go.RowKit

section
variable {W w' w1 : World}
theorem Bytes.held {A : Option Addr} {n c : Nat} {l : List UInt8} (h : Bytes W W.heap.size A n c l) (hs : (∀ b o, b < W.heap.size → w'.cell? ⟨b, o, none⟩ = W.cell? ⟨b, o, none⟩) ∧ Below W.heap.size W w') : Bytes w' W.heap.size A n c l := h.below hs.2
end

/-- block b is just these cells -/
def Str (w : World) (b : Nat) (cs : Array Value) : Prop := ∃ t, w.heap[b]? = some (.cells cs t (0, 0))
section
variable {w w' : World} {b : Nat} {cs : Array Value}
theorem Str.lt (h : Str w b cs) : b < w.heap.size := by
  obtain ⟨t, h⟩ := h
  exact (Array.getElem?_eq_some_iff.1 h).1
theorem Str.new (w : World) (cs : Array Value) (t : TypeId) : Str (w.alloc (.cells cs t)) w.heap.size cs := ⟨t, heap_alloc_new w _⟩
theorem Str.alloc (h : Str w b cs) (o : Obj) : Str (w.alloc o) b cs := by
  have hl := h.lt
  obtain ⟨t, h⟩ := h
  exact ⟨t, (Below.heap_alloc w o b hl).trans h⟩
theorem Str.next (h : Str w b cs) (hb : Below w.heap.size w w') : Str w' b cs := by
  have hl := h.lt
  obtain ⟨t, h⟩ := h
  exact ⟨t, (hb.block b hl).trans h⟩
theorem Str.below {B : Nat} (h : Str w b cs) (hb : Below B w w') (hB : b < B) : Str w' b cs := by
  obtain ⟨t, h⟩ := h
  exact ⟨t, (hb.block b hB).trans h⟩
theorem Str.cell (h : Str w b cs) (i : Nat) : w.cell? ⟨b, i, none⟩ = cs[i]? := by
  obtain ⟨t, h⟩ := h
  exact cell_of_row w b i cs t (0, 0) h
theorem Str.frozen (h : Str w b cs) (i : Nat) : w.frozen? ⟨b, i, none⟩ = false := by
  obtain ⟨t, h⟩ := h
  simp [World.frozen?, h]
theorem Str.drewN (h : Str w b cs) (n : Nat) : Str (w.drewN n) b cs := h
theorem str5 {c0 c1 c2 c3 c4 : Value} (h : Str w b #[c0, c1, c2, c3, c4]) :
    w.cell? ⟨b, 0, none⟩ = some c0 ∧ w.cell? ⟨b, 1, none⟩ = some c1 ∧ w.cell? ⟨b, 2, none⟩ = some c2 ∧ w.cell? ⟨b, 3, none⟩ = some c3 ∧ w.cell? ⟨b, 4, none⟩ = some c4 := ⟨h.cell 0, h.cell 1, h.cell 2, h.cell 3, h.cell 4⟩
theorem str7 {c0 c1 c2 c3 c4 c5 c6 : Value} (h : Str w b #[c0, c1, c2, c3, c4, c5, c6]) :
    w.cell? ⟨b, 0, none⟩ = some c0 ∧ w.cell? ⟨b, 1, none⟩ = some c1 ∧ w.cell? ⟨b, 2, none⟩ = some c2 ∧ w.cell? ⟨b, 3, none⟩ = some c3 ∧ w.cell? ⟨b, 4, none⟩ = some c4 ∧ w.cell? ⟨b, 5, none⟩ = some c5 ∧ w.cell? ⟨b, 6, none⟩ = some c6 := ⟨h.cell 0, h.cell 1, h.cell 2, h.cell 3, h.cell 4, h.cell 5, h.cell 6⟩
end
end Go.Proofs.Ytcfieofcnpalgaa
end
section
namespace Go.Proofs.Ytcfieofcnpalgaa
open Go.RowKit

theorem Str.set {w : World} {b : Nat} {cs : Array Value} (h : Str w b cs) (i : Nat) (v : Value) : Str (w.setCell ⟨b, i, none⟩ v) b (cs.setIfInBounds i v) := by
  obtain ⟨t, h⟩ := h
  refine ⟨t, ?_⟩
  have hl := (Array.getElem?_eq_some_iff.1 h).1
  simp [World.setCell, Array.getElem?_modify, h]
theorem Str.other {w : World} {b b' : Nat} {cs : Array Value} (h : Str w b cs) (i : Nat) (v : Value) (hne : b ≠ b') : Str (w.setCell ⟨b', i, none⟩ v) b cs := by
  obtain ⟨t, h⟩ := h
  exact ⟨t, (Deep.blk_setCell_other w ⟨b', i, none⟩ v b hne).trans h⟩
theorem own_set {w : World} {base : Nat} {e : TypeId} {size n : Nat} {v : Value} {xs : List Value} (h : w.ownsRow base e size v n xs) {b : Nat} (hb : b < base) (i : Nat) (u : Value) : (w.setCell ⟨b, i, none⟩ u).ownsRow base e size v n xs := by
  obtain ⟨h1, h2⟩ := h
  refine ⟨h1, ?_⟩
  rcases h2 with h2 | ⟨g, cap, cur, hv, hg, hh, r⟩
  · exact .inl h2
  · exact .inr ⟨g, cap, cur, hv, hg, (Deep.blk_setCell_other w ⟨b, i, none⟩ u g (by show g ≠ b; omega)).trans hh, r⟩
theorem Bytes.own {w : World} {A : Option Addr} {n c base k : Nat} {l : List UInt8} {e : TypeId} (h : w.ownsRow base e 1 (.slice A n c) k (l.map byteV)) : Bytes w w.heap.size A n c l := by
  obtain ⟨A', n', c', e', h'⟩ := Bytes.of_own h
  cases e'
  exact h'
theorem str1 {w : World} {b : Nat} {c0 : Value} (h : Str w b #[c0]) : w.cell? ⟨b, 0, none⟩ = some c0 := h.cell 0
theorem str4 {w : World} {b : Nat} {c0 c1 c2 c3 : Value} (h : Str w b #[c0, c1, c2, c3]) : w.cell? ⟨b, 0, none⟩ = some c0 ∧ w.cell? ⟨b, 1, none⟩ = some c1 ∧ w.cell? ⟨b, 2, none⟩ = some c2 ∧ w.cell? ⟨b, 3, none⟩ = some c3 := ⟨h.cell 0, h.cell 1, h.cell 2, h.cell 3⟩
end Go.Proofs.Ytcfieofcnpalgaa
end
section
namespace Go.Proofs.Ytcfieofcnpalgaa.BeP

/-- a number of 64 bits, as a natural number -/
def u64 (m : Int) : Nat := (m % 18446744073709551616).toNat
/-- byte k of the lowest width bytes of m -/
def part (width : Nat) (m : Int) (k : Nat) : UInt8 := UInt8.ofNat (u64 m / 2 ^ (8 * (width - 1 - k)))
/-- the lowest width bytes of m, the greatest one ahead -/
def parts (width : Nat) (m : Int) : List UInt8 := (List.range width).map (part width m)
theorem parts_length (width : Nat) (m : Int) : (parts width m).length = width := by simp [parts]
theorem parts_take (width : Nat) (m : Int) (k : Nat) (h : k < width) : (parts width m).take (k + 1) = (parts width m).take k ++ [part width m k] := by
  have hl : k < (parts width m).length := by rw [parts_length]; exact h
  rw [List.take_succ_eq_append_getElem hl]
  simp [parts]
theorem parts_all (width : Nat) (m : Int) (k : Nat) (h : ¬ k < width) : (parts width m).take k = parts width m := List.take_of_length_le (by rw [parts_length]; omega)
theorem u64_wrap (m : Int) : IntKind.u64.wrap m = (u64 m : Int) := by
  simp only [IntKind.wrap, IntKind.bits, IntKind.signed, u64]
  simp
  omega
/-- as the walk spells it -/
theorem part_walk (width : Nat) (m : Int) (k : Nat) (h : k < width) : IntKind.u64.wrap m / 2 ^ (8 * (width - 1) - 8 * k) % 256 = ((part width m k).toNat : Int) := by
  have e : 8 * (width - 1) - 8 * k = 8 * (width - 1 - k) := by omega
  rw [u64_wrap, e, part]
  generalize 8 * (width - 1 - k) = j
  generalize u64 m = u
  have h1 : (UInt8.ofNat (u / 2 ^ j)).toNat = u / 2 ^ j % 256 := by simp
  rw [h1]
  simp
end Go.Proofs.Ytcfieofcnpalgaa.BeP
end
section
namespace Go.Proofs.Ytcfieofcnpalgaa.CellP

/-- the empty cell -/
def none : Cell := ⟨0, [], 0, 0, 0⟩
/-- may a cell be? -/
def right (c : Cell) : Bool :=
  if c.kind = 1 then decide (c.data.length ≤ 32) && (c.lo == 0 && (c.hi == 0 && c.val == 0))
  else c.kind == 2 && (c.data.length == 0 && (decide (c.lo ≤ c.val) && decide (c.val ≤ c.hi)))
def same (a b : Cell) : Bool := a.kind == b.kind && (a.data == b.data && (a.lo == b.lo && (a.hi == b.hi && a.val == b.val)))
def code (b : Bool) : Int := if b then 0 else 1
/-- a counter with another value, and the error's number -/
def set (c : Cell) (v : Int) : Cell × Int :=
  if c.kind = 2 ∧ right c = true then (if v < c.lo ∨ c.hi < v then (none, 8) else (⟨2, [], c.lo, c.hi, v⟩, 0)) else (none, 6)
/-- the bytes of a cell that may be -/
def bytes (c : Cell) : List UInt8 :=
  if right c = true then (if c.kind = 1 then [1, UInt8.ofNat c.data.length] ++ c.data else [2] ++ (BeP.parts 8 c.lo ++ (BeP.parts 8 c.hi ++ BeP.parts 8 c.val))) else []
end Go.Proofs.Ytcfieofcnpalgaa.CellP
end
section
namespace Go.Proofs.Ytcfieofcnpalgaa.KeyP

/-- a byte that a key may have -/
def okB (c : UInt8) : Bool := decide (33 ≤ c.toNat) && decide (c.toNat ≤ 126)
def right (l : List UInt8) : Bool := l.all okB && (decide (0 < l.length) && decide (l.length ≤ 16))
/-- the error's number: 0, or 1 -/
def code (b : Bool) : Int := if b then 0 else 1
theorem all_take (s : ByteArray) (k : Nat) (h : k < s.size) : (s.data.toList.take (k + 1)).all okB = ((s.data.toList.take k).all okB && okB s[k]) := by
  rw [List.take_succ_eq_append_getElem (by simpa using h)]
  simp only [List.all_append, List.all_cons, List.all_nil, Bool.and_true]
  rfl
theorem all_of_take (s : ByteArray) (k : Nat) (h : ¬ k < s.size) (ha : (s.data.toList.take k).all okB = true) : s.data.toList.all okB = true := by
  rw [List.take_of_length_le (by simp; exact Nat.le_of_not_lt h)] at ha
  exact ha
theorem right_eq (s : ByteArray) (h1 : s.data.toList.all okB = true) (h2 : 0 < s.size) : right s.data.toList = decide ((s.size : Int) ≤ 16) := by
  have e : s.data.toList.length = s.size := by simp
  have e2 : decide ((s.size : Int) ≤ 16) = decide (s.size ≤ 16) := by rw [decide_eq_decide]; omega
  rw [e2]
  simp [right, h1, h2]
theorem right_of (s : ByteArray) (h1 : s.data.toList.all okB = true) (h2 : 0 < s.size) (h3 : s.size ≤ 16) : right s.data.toList = true := by
  have e : s.data.toList.length = s.size := by simp
  simp only [right, h1, e, Bool.true_and, Bool.and_eq_true, decide_eq_true_eq]
  exact ⟨h2, h3⟩
theorem not_right_len (s : ByteArray) (h : ¬ (0 < s.size ∧ s.size ≤ 16)) : right s.data.toList = false := by
  have e : s.data.toList.length = s.size := by simp
  unfold right
  rw [e]
  by_cases h0 : 0 < s.size <;> by_cases h1 : s.size ≤ 16 <;> simp_all
theorem not_right_at (s : ByteArray) (k : Nat) (h : k < s.size) (hc : okB s[k] = false) : right s.data.toList = false := by
  have hm : s[k] ∈ s.data.toList := by
    have : s[k] = s.data.toList[k]'(by simpa using h) := rfl
    rw [this]
    exact List.getElem_mem _
  have : s.data.toList.all okB = false := by
    rw [List.all_eq_false]
    exact ⟨_, hm, by simp [hc]⟩
  simp [right, this]
theorem okB_true (c : UInt8) (h1 : 33 ≤ c.toNat) (h2 : c.toNat ≤ 126) : okB c = true := by simp [okB, h1, h2]
theorem okB_lo (c : UInt8) (h1 : c.toNat < 33) : okB c = false := by
  have : ¬ 33 ≤ c.toNat := by omega
  simp [okB, this]
theorem okB_hi (c : UInt8) (h1 : 126 < c.toNat) : okB c = false := by
  have : ¬ c.toNat ≤ 126 := by omega
  simp [okB, this]
theorem code_true : code true = 0 := rfl
theorem code_false : code false = 1 := rfl
end Go.Proofs.Ytcfieofcnpalgaa.KeyP
end
section
namespace Go.Proofs.Ytcfieofcnpalgaa.SlotP

/-- the empty slot -/
def none : Item := ⟨0, ByteArray.empty, CellP.none⟩
def same (x y : Item) : Bool := x.state == y.state && (x.key.toList == y.key.toList && CellP.same x.cell y.cell)
/-- may an item be? -/
def right (x : Item) : Bool := if x.state = 0 then same x none else ((x.state == 1 || x.state == 2) && (KeyP.right x.key.data.toList && CellP.right x.cell))
/-- what a slot begins with -/
def body (x : Item) : List UInt8 := [UInt8.ofNat x.state.toNat, UInt8.ofNat x.key.size] ++ (x.key.data.toList ++ CellP.bytes x.cell)
def zeros (n : Nat) : List UInt8 := List.replicate n 0
/-- the bytes of a slot -/
def bytes (x : Item) : List UInt8 := if x.state ≠ 0 ∧ right x = true then body x ++ zeros (64 - (body x).length) else zeros 64

theorem right_key (x : Item) (h0 : x.state ≠ 0) (hr : right x = true) : x.key.size ≤ 16 := by
  unfold right at hr
  rw [if_neg h0] at hr
  simp only [Bool.and_eq_true] at hr
  have := hr.2.1
  unfold KeyP.right at this
  simp at this
  exact this.2.2
theorem right_state (x : Item) (h0 : x.state ≠ 0) (hr : right x = true) : x.state = 1 ∨ x.state = 2 := by
  unfold right at hr
  rw [if_neg h0] at hr
  simp only [Bool.and_eq_true, Bool.or_eq_true, beq_iff_eq] at hr
  exact hr.1
theorem cell_le (c : Cell) : (CellP.bytes c).length ≤ 34 := by
  unfold CellP.bytes
  cases hr : CellP.right c
  · simp
  · by_cases hk : c.kind = 1
    · unfold CellP.right at hr
      rw [if_pos hk] at hr
      simp at hr
      simp [hk]
      omega
    · simp [hk, BeP.parts_length]
/-- bytes with others from a place on -/
def over (l : List UInt8) (off : Nat) (s : List UInt8) : List UInt8 := l.take off ++ (s ++ l.drop (off + s.length))
theorem over_append (p q s : List UInt8) (n : Nat) (h : p.length = n) : over (p ++ q) n s = p ++ (s ++ q.drop s.length) := by
  subst h
  unfold over
  rw [List.take_left, List.drop_append]
  simp
theorem zeros_drop (n m : Nat) : (zeros n).drop m = zeros (n - m) := by simp [zeros]
theorem over_length (l : List UInt8) (off : Nat) (s : List UInt8) (h : off + s.length ≤ l.length) : (over l off s).length = l.length := by
  simp [over]; omega
theorem over_zero (l s : List UInt8) (h : l.length = s.length) : over l 0 s = s := by
  unfold over
  rw [List.drop_eq_nil_of_le (by omega)]
  simp
/-- as slot.Put lays the bytes -/
theorem put_list (x : Item) (h0 : x.state ≠ 0) (hr : right x = true) :
    over (over (((zeros 64).set 0 (UInt8.ofNat x.state.toNat)).set 1 (UInt8.ofNat x.key.size)) 2 x.key.data.toList) (2 + x.key.size) (CellP.bytes x.cell) = bytes x := by
  have hl : x.key.data.toList.length = x.key.size := Array.length_toList
  have hset : ((zeros 64).set 0 (UInt8.ofNat x.state.toNat)).set 1 (UInt8.ofNat x.key.size) = [UInt8.ofNat x.state.toNat, UInt8.ofNat x.key.size] ++ zeros 62 := rfl
  have h2 : ([UInt8.ofNat x.state.toNat, UInt8.ofNat x.key.size] ++ x.key.data.toList).length = 2 + x.key.size := by
    rw [List.length_append, hl]
    rfl
  unfold bytes
  rw [if_pos ⟨h0, hr⟩, hset, over_append _ _ _ 2 rfl, ← List.append_assoc, over_append _ _ _ _ h2, zeros_drop, zeros_drop, hl]
  unfold body
  simp only [List.append_assoc, List.length_append, hl, List.length_cons, List.length_nil]
  rw [show 62 - x.key.size - (CellP.bytes x.cell).length = 64 - (0 + 1 + 1 + (x.key.size + (CellP.bytes x.cell).length)) by omega]
theorem bytes_length (x : Item) : (bytes x).length = 64 := by
  unfold bytes
  split
  · rename_i h
    have hk := right_key x h.1 h.2
    have hc := cell_le x.cell
    have hl : x.key.data.toList.length = x.key.size := Array.length_toList
    simp only [body, zeros, List.length_append, List.length_replicate, List.length_cons, List.length_nil, hl]
    omega
  · simp [zeros]
end Go.Proofs.Ytcfieofcnpalgaa.SlotP
end
section
namespace Go.Proofs.Ytcfieofcnpalgaa
open Go.RowKit

/-- bytes as cells -/
def rowV (l : List UInt8) : Array Value := (l.map byteV).toArray
theorem rowV_size (l : List UInt8) : (rowV l).size = l.length := by simp [rowV]
theorem rowV_get (l : List UInt8) (i : Nat) : (rowV l)[i]? = l[i]?.map byteV := by simp [rowV]
theorem rowV_one (l : List UInt8) : (rowV l).all (·.oneCell') = true := by
  rw [Array.all_eq_true_iff_forall_mem]
  intro v hv
  exact byteV_one l v (by simpa [rowV] using hv)
theorem rowV_zeros (n : Nat) : rowV (SlotP.zeros n) = Array.replicate n (.int .u8 0) := by
  simp [rowV, SlotP.zeros, byteV]
theorem rowV_set (l : List UInt8) (i : Nat) (u : UInt8) : (rowV l).setIfInBounds i (byteV u) = rowV (l.set i u) := by
  simp [rowV, List.map_set]

def alSem (t : TypeId) : Sem Value := Instr.alloc t true (.tuple #[])
def bdSem (t : TypeId) (ps : Array (Nat × Value)) : Sem Value := Instr.build t ps
def ldSem (t : TypeId) (v : Value) : Sem Value := Instr.loadAt t v
def stSem (t : TypeId) (a v : Value) : Sem Unit := Instr.storeAt t a v
/-- a type that is so many bytes -/
structure ArrT (P : Program) (t : TypeId) (n : Nat) : Prop where
  und : ∃ e, P.underlying t = some (.array n e) ∧ P.underlying e = some (.int .u8) ∧ (P.info? e).map (·.size) = some 1
  info : (P.info? t).map (fun i => (i.zero, i.size)) = some (some (.agg (Array.replicate n (.int .u8 0))), n)
  guard : P.eqGuardType P.depth t = false
section
variable {P : Program} {t : TypeId} {n : Nat}
theorem ArrT.size (h : ArrT P t n) : (P.info? t).map (·.size) = some n := by
  have := h.info
  cases hq : P.info? t with
  | none => simp [hq] at this
  | some i =>
    simp [hq] at this
    simp [this.2]
theorem run_al (h : ArrT P t n) (w : World) : (alSem t).run P w = .ok (.pointer (some ⟨w.heap.size, 0, none⟩)) (w.alloc (.cells (rowV (SlotP.zeros n)) t)) := by
  obtain ⟨hz, _⟩ := zero_of_info h.info
  rw [rowV_zeros]
  simp [alSem, Instr.alloc, hz, newVar, newRow, Value.cells]
theorem run_bd (h : ArrT P t n) (w : World) : (bdSem t #[]).run P w = .ok (.agg (rowV (SlotP.zeros n))) w := by
  obtain ⟨hz, _⟩ := zero_of_info h.info
  obtain ⟨e, he, _, he1⟩ := h.und
  rw [rowV_zeros]
  cases hq : P.info? e with
  | none => simp [hq] at he1
  | some i => simp [bdSem, Instr.build, hz, run_underlying he, sizeOf, typeInfo, hq, Instr.fill, Value.cells]
theorem run_ld (h : ArrT P t n) {w : World} {b : Nat} {l : List UInt8} (hs : Str w b (rowV l)) (hl : l.length = n) : (ldSem t (.pointer (some ⟨b, 0, none⟩))).run P w = .ok (.agg (rowV l)) w := by
  obtain ⟨t', hg⟩ := hs
  obtain ⟨e, he, _⟩ := h.und
  simp only [ldSem, Instr.loadAt, Instr.sureAddr, Sem.run_bind, Sem.run_pure, Result.andThen_ok]
  exact run_loadVar_row w b t' t (rowV l) (0, 0) _ hg he rfl (by rw [h.size, rowV_size, hl])
theorem run_st (h : ArrT P t n) {w : World} {b : Nat} {cs : Array Value} {l : List UInt8} (hs : Str w b cs) (hc : cs.size = n) (hl : l.length = n) : (stSem t (.pointer (some ⟨b, 0, none⟩)) (.agg (rowV l))).run P w = .ok () (w.setRow b (rowV l)) := by
  obtain ⟨t', hg⟩ := hs
  simp only [stSem, Instr.storeAt, Instr.sureAddr, Sem.run_bind, Sem.run_pure, Result.andThen_ok]
  exact run_storeVar_row w b t' t cs (rowV l) hg (by rw [h.size, rowV_size, hl]) (by rw [rowV_size, hc, hl]) (rowV_one l)
theorem Str.setRow {w : World} {b : Nat} {cs cs' : Array Value} (h : Str w b cs) : Str (w.setRow b cs') b cs' := by
  obtain ⟨t', hg⟩ := h
  exact ⟨t', by simp [World.setRow, Array.getElem?_modify, hg]⟩
theorem Str.setRow_other {w : World} {b b' : Nat} {cs cs' : Array Value} (h : Str w b cs) (hne : b ≠ b') : Str (w.setRow b' cs') b cs := by
  obtain ⟨t', hg⟩ := h
  exact ⟨t', by simp [World.setRow, Array.getElem?_modify, hg, Ne.symm hne]⟩
theorem run_eqItems (e : TypeId) (d : Nat) (he : P.underlying e = some (.int .u8)) (hc : P.cellsOf e = 1) (l l' : List UInt8) (w : World) (hl : l'.length = l.length) :
    ∀ is : List Nat, (∀ j ∈ is, j < l.length) → (Op.eqItems (d + 1) e (P.cellsOf e) (rowV l) (rowV l') is).run P w = .ok (is.all fun j => l[j]? == l'[j]?) w := by
  intro is
  induction is with
  | nil => intro _; simp [Op.eqItems]
  | cons j is ih =>
    intro hj
    have hlt : j < l.length := hj j (by simp)
    have hlt' : j < l'.length := by omega
    have hag : (isAgg e).run P w = .ok false w := by simp [isAgg, run_underlying he]
    have h1 : (part e (rowV l) j).run P w = .ok (byteV l[j]) w := by simp [part, hag, rowV_get, hlt]
    have h2 : (part e (rowV l') j).run P w = .ok (byteV l'[j]) w := by simp [part, hag, rowV_get, hlt']
    have h3 : (Op.equalIn (d + 1) e (byteV l[j]) (byteV l'[j])).run P w = .ok (((l[j].toNat : Int)) == (l'[j].toNat : Int)) w := run_equalIn_int w d e .u8 .u8 _ _ he
    have h4 : ((l[j].toNat : Int) == (l'[j].toNat : Int)) = (l[j]? == l'[j]?) := by
      rw [List.getElem?_eq_getElem hlt, List.getElem?_eq_getElem hlt', Bool.eq_iff_iff]
      simp only [beq_iff_eq, Option.some.injEq]
      constructor
      · intro h; exact UInt8.toNat.inj (by omega)
      · intro h; rw [h]
    have hr := ih fun k hk => hj k (by simp [hk])
    rw [hc] at hr ⊢
    simp only [Op.eqItems, Sem.run_bind, Nat.mul_one, h1, h2, h3, Result.andThen_ok, h4, List.all_cons]
    cases hb : (l[j]? == l'[j]?) with
    | false => simp
    | true => simpa using hr
theorem all_eq (l l' : List UInt8) (hl : l'.length = l.length) : ((List.range l.length).all fun j => l[j]? == l'[j]?) = (l == l') := by
  rw [Bool.eq_iff_iff]
  simp only [List.all_eq_true, List.mem_range, beq_iff_eq]
  constructor
  · intro h
    refine List.ext_getElem? fun j => ?_
    by_cases hj : j < l.length
    · exact h j hj
    · rw [List.getElem?_eq_none (by omega), List.getElem?_eq_none (by omega)]
  · rintro rfl j _; rfl
theorem run_arr_eq (h : ArrT P t n) (l l' : List UInt8) (hl : l.length = n) (hl' : l'.length = n) (w : World) : (Op.equalIn 10000 t (.agg (rowV l)) (.agg (rowV l'))).run P w = .ok (l == l') w := by
  obtain ⟨e, hu, he, hi⟩ := h.und
  cases hq : P.info? e with
  | none => simp [hq] at hi
  | some i =>
    have hc : P.cellsOf e = 1 := by simpa [Program.cellsOf, hq] using hi
    have := run_equalIn_array w 9999 (rowV l) (rowV l') hu hq
    rw [this, run_eqItems e 9998 he hc l l' w (by omega) _ (by simp; omega), ← all_eq l l' (by omega), hl]

def slSem (t : TypeId) (x : Value) (lo hi mx : Option Value) : Sem Value := Instr.sliceAt t x lo hi mx
/-- the address of a part of an array -/
theorem run_sl (h : ArrT P t n) (b lo hi : Nat) (h1 : lo ≤ hi) (h2 : hi ≤ n) (hlt : lo < n) (w : World) :
    (slSem t (.pointer (some ⟨b, 0, none⟩)) (some (.int .i64 (lo : Int))) (some (.int .i64 (hi : Int))) none).run P w = .ok (.slice (some ⟨b, lo, none⟩) (hi - lo) (n - lo)) w := by
  obtain ⟨e, hu, _, hi1⟩ := h.und
  cases hq : P.info? e with
  | none => simp [hq] at hi1
  | some i =>
    have hs : i.size = 1 := by simpa [hq] using hi1
    have a1 : (0 : Int) ≤ (hi : Int) ∧ (hi : Int) ≤ (n : Int) := by omega
    have a2 : (0 : Int) ≤ (lo : Int) ∧ (lo : Int) ≤ (hi : Int) := by omega
    simp [slSem, Instr.sliceAt, run_underlying hu, Instr.sureAddr, Instr.sliceBounds, Instr.sliceBound, asIntOf, a1, a2, sizeOf, typeInfo, hq, hs, add_none, h1, h2]
    omega
theorem run_sl_from (h : ArrT P t n) (b lo : Nat) (hlt : lo < n) (w : World) :
    (slSem t (.pointer (some ⟨b, 0, none⟩)) (some (.int .i64 (lo : Int))) none none).run P w = .ok (.slice (some ⟨b, lo, none⟩) (n - lo) (n - lo)) w := by
  obtain ⟨e, hu, _, hi1⟩ := h.und
  cases hq : P.info? e with
  | none => simp [hq] at hi1
  | some i =>
    have hs : i.size = 1 := by simpa [hq] using hi1
    simp [slSem, Instr.sliceAt, run_underlying hu, Instr.sureAddr, Instr.sliceBounds, Instr.sliceBound, asIntOf, sizeOf, typeInfo, hq, hs, add_none, (by omega : lo ≤ n)]
    omega
theorem run_sl_all (h : ArrT P t n) (b : Nat) (w : World) :
    (slSem t (.pointer (some ⟨b, 0, none⟩)) none none none).run P w = .ok (.slice (some ⟨b, 0, none⟩) n n) w := by
  obtain ⟨e, hu, _, hi1⟩ := h.und
  cases hq : P.info? e with
  | none => simp [hq] at hi1
  | some i =>
    simp [slSem, Instr.sliceAt, run_underlying hu, Instr.sureAddr, Instr.sliceBounds, sizeOf, typeInfo, hq, add_none]
/-- a part of a row reads as bytes -/
theorem Str.part {w : World} {b : Nat} {l : List UInt8} (h : Str w b (rowV l)) (lo m c : Nat) (h1 : lo + m ≤ l.length) (h2 : m ≤ c) (h3 : c ≤ maxLen) : Bytes w w.heap.size (some ⟨b, lo, none⟩) m c ((l.drop lo).take m) := by
  refine ⟨by simp; omega, h2, h3, fun _ => ⟨b, lo, rfl, h.lt, fun j u hu => ?_⟩⟩
  rw [h.cell, rowV_get]
  rw [List.getElem?_take] at hu
  split at hu
  · rw [List.getElem?_drop] at hu
    rw [hu]
    rfl
  · cases hu
theorem Str.grown {w w1 : World} {b g : Nat} {cs : Array Value} (h : Str w b cs) (hg : w.grownBy w1 (some g)) (hne : b ≠ g) : Str w1 b cs := by
  have hl := h.lt
  obtain ⟨t', h⟩ := h
  exact ⟨t', (hg.block b hl (by intro e; exact hne (by injection e))).trans h⟩
theorem below_grown {g : Nat} {a w w1 : World} (h : Below a.heap.size a w) (hg : w.grownBy w1 (some g)) (hB : a.heap.size ≤ g) : Below a.heap.size a w1 :=
  ⟨hg.os.trans h.os, hg.tape.trans h.tape, hg.output.trans h.output, Nat.le_trans h.size hg.size, fun i hi => (hg.block i (Nat.lt_of_lt_of_le hi h.size) (by intro e; injection e with e; omega)).trans (h.block i hi)⟩
theorem results_arr {fn : Func} {p : Tmp} (hA : ArrT P t n) (hr : fn.results = #[.cell p t]) (tmps : Array Value) {w : World} {g : Nat} {l : List UInt8} (hs : Str w g (rowV l)) (hl : l.length = n)
    (hp : tmps.getD p undef = .pointer (some ⟨g, 0, none⟩)) : (results fn tmps).run P w = .ok (.agg (rowV l)) w := by
  obtain ⟨t', hg⟩ := hs
  obtain ⟨e, he, _⟩ := hA.und
  exact results_cell_row hr tmps w g t' (rowV l) (0, 0) _ hp hg he rfl (by rw [hA.size, rowV_size, hl])
end
end Go.Proofs.Ytcfieofcnpalgaa
end
