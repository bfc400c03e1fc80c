/-
  Parts of the proof of PoolAhead.
-/
import Derived.WalkKit
import Derived.WalkSpells
import Derived.WalkLawsBesides
import Derived.Lib.Hide
import Derived.Deep.Draws
import Derived.Deep.QuietTactic
import Derived.BigQuiet
import Derived.Test.YtcfieofcnpalgaaGreatProg
import Derived.ProofKit
import Derived.OpenShut
import Derived.ShutString
import Derived.ChangeOld
import Derived.Laws.IdiomStrings
import Derived.Laws.BytesString
import Derived.Lib.BufferRead
import Derived.Laws.CopyOwn
import Derived.Laws.IdiomCopy
import Derived.Maps.AppendAt
import Derived.Deep.AppendLies
import Derived.Laws.Slices
import Derived.Deep.OwnRows
import Derived.Deep.RegionHeld3
section
namespace Go.Proofs.YtcfieofcnpalgaaGreat

/-- what a key has -/
structure Cell where
  kind : Int
  data : List UInt8
  lo : Int
  hi : Int
  val : Int

/-- an operation -/
structure OpX where
  act : Int
  key : ByteArray
  data : List UInt8
  lo : Int
  hi : Int
  n : Int

/-- a slot -/
structure Item where
  state : Int
  key : ByteArray
  cell : Cell

/-- how an operation is taken back -/
structure Undo where
  act : Int
  key : ByteArray
  item : Item
  n : Int

/-- a number of 64 bits -/
def In64 (n : Int) : Prop := -9223372036854775808 ≤ n ∧ n ≤ 9223372036854775807
end Go.Proofs.YtcfieofcnpalgaaGreat
end
section
namespace Go.Proofs.YtcfieofcnpalgaaGreat
open Go.RowKit

/-- one call behind another: nothing that lay before the first has turned -/
theorem bstep {a b c : World} (h : Below a.heap.size a b) (k : Below b.heap.size b c) : Below a.heap.size a c := h.trans (k.mono h.size)
theorem bsame (a : World) : Below a.heap.size a a := Below.refl _ _
theorem balloc {a b : World} (h : Below a.heap.size a b) (o : Obj) : Below a.heap.size a (b.alloc o) := h.alloc h.size o
/-- what lay before a call reads behind it as it did: as rules for the walk -/
theorem bcell {W w1 : World} (hb : Below W.heap.size W w1) : (∀ b o, b < W.heap.size → w1.cell? ⟨b, o, none⟩ = W.cell? ⟨b, o, none⟩) ∧ (∀ b o, b < W.heap.size → w1.frozen? ⟨b, o, none⟩ = W.frozen? ⟨b, o, none⟩) :=
  ⟨fun b o h => hb.cell (p := ⟨b, o, none⟩) h, fun b o h => hb.frozen (p := ⟨b, o, none⟩) h⟩
theorem lt_of_cell {w : World} {a : Addr} {v : Value} (h : w.cell? a = some v) : a.block < w.heap.size := by
  rcases Nat.lt_or_ge a.block w.heap.size with hl | hg
  · exact hl
  · unfold World.cell? at h
    rw [Array.getElem?_eq_none hg] at h
    cases h
/-- a byte as a value -/
def byteV (b : UInt8) : Value := .int .u8 (b.toNat : Int)
theorem byteV_one (l : List UInt8) : ∀ v ∈ l.map byteV, v.oneCell' = true := by
  intro v hv
  obtain ⟨b, _, rfl⟩ := List.mem_map.1 hv
  rfl
/-- so many zero bytes -/
def zerosV (n : Nat) : List Value := List.replicate n (.int .u8 0)
theorem zerosV_length (n : Nat) : (zerosV n).length = n := by simp [zerosV]
/-- the slice (A, n, c) reads as the bytes l, all below block B; nil and empty slices let in -/
def Bytes (w : World) (B : Nat) (A : Option Addr) (n c : Nat) (l : List UInt8) : Prop :=
  l.length = n ∧ n ≤ c ∧ c ≤ maxLen ∧ (0 < n → ∃ b o, A = some ⟨b, o, none⟩ ∧ b < B ∧ ∀ j u, l[j]? = some u → w.cell? ⟨b, o + j, none⟩ = some (byteV u))

section
variable {w w' : World} {B B' n c : Nat} {A : Option Addr} {l : List UInt8}
theorem Bytes.none_ (w : World) (B : Nat) : Bytes w B none 0 0 [] := ⟨rfl, Nat.le_refl _, by unfold maxLen; omega, fun h => absurd h (by omega)⟩
theorem Bytes.keep (h : Bytes w B A n c l) (hk : ∀ p : Addr, p.block < B → w'.cell? p = w.cell? p) : Bytes w' B A n c l :=
  ⟨h.1, h.2.1, h.2.2.1, fun hn => by
    obtain ⟨b, o, e, hb, hc⟩ := h.2.2.2 hn
    exact ⟨b, o, e, hb, fun j u hu => (hk _ hb).trans (hc j u hu)⟩⟩
theorem Bytes.more (h : Bytes w B A n c l) (hB : B ≤ B') : Bytes w B' A n c l :=
  ⟨h.1, h.2.1, h.2.2.1, fun hn => by
    obtain ⟨b, o, e, hb, hc⟩ := h.2.2.2 hn
    exact ⟨b, o, e, by omega, hc⟩⟩
theorem Bytes.below (h : Bytes w B A n c l) (hb : Below B w w') : Bytes w' B A n c l := h.keep fun _ hp => hb.cell hp
/-- a slice that was there lies there behind a call -/
theorem Bytes.next (h : Bytes w w.heap.size A n c l) (hb : Below w.heap.size w w') : Bytes w' w'.heap.size A n c l := (h.below hb).more hb.size
theorem Bytes.drewN (h : Bytes w B A n c l) (k : Nat) : Bytes (w.drewN k) B A n c l := h
theorem Bytes.alloc (h : Bytes w B A n c l) (hB : B ≤ w.heap.size) (o : Obj) : Bytes (w.alloc o) B A n c l := h.keep fun p hp => World.cell?_alloc_lt w o p (by omega)
theorem add_none (b o j : Nat) : (⟨b, o, none⟩ : Addr).add j = ⟨b, o + j, none⟩ := by unfold Addr.add; split <;> simp_all
/-- as the library's laws on a source ask it -/
theorem Bytes.src (h : Bytes w B A n c l) : 0 < (l.map byteV).length → ∃ ad, A = some ad ∧ ∀ j v, (l.map byteV)[j]? = some v → w.cell? (ad.add j) = some v := by
  intro hl
  obtain ⟨b, o, e, _, hc⟩ := h.2.2.2 (by have := h.1; simp at hl; omega)
  refine ⟨_, e, fun j v hv => ?_⟩
  rw [List.getElem?_map, Option.map_eq_some_iff] at hv
  obtain ⟨u, hu, rfl⟩ := hv
  rw [add_none]
  exact hc j u hu
/-- what a call owns reads as bytes -/
theorem Bytes.of_own {base : Nat} {e : TypeId} {v : Value} {k : Nat} (h : w.ownsRow base e 1 v k (l.map byteV)) : ∃ A n c, v = .slice A n c ∧ Bytes w w.heap.size A n c l := by
  obtain ⟨hl, h2⟩ := h
  have hk : l.length = k := by simpa using hl
  rcases h2 with ⟨rfl, h0⟩ | ⟨g, cap, cur, rfl, _, hg, hnc, hm, hsz, htk⟩
  · have : l = [] := List.eq_nil_of_length_eq_zero (by omega)
    subst this
    exact ⟨none, 0, 0, rfl, Bytes.none_ _ _⟩
  · refine ⟨_, _, _, rfl, hk, hnc, hm, fun hn => ⟨g, 0, rfl, (Array.getElem?_eq_some_iff.1 hg).1, fun j u hu => ?_⟩⟩
    have hj : j < l.length := (List.getElem?_eq_some_iff.1 hu).1
    have hx := congrArg (·[j]?) htk
    simp only [List.getElem?_take, List.getElem?_map, hu, Option.map_some] at hx
    rw [if_pos (by omega)] at hx
    unfold World.cell?
    simp only [hg, Nat.zero_add]
    simpa using hx
theorem Bytes.len (h : Bytes w B A n c l) : l.length = n := h.1
theorem Bytes.at_ {k : Nat} (h : Bytes w B A n c l) (hk : k < n) : ∃ b o, A = some ⟨b, o, none⟩ ∧ b < B ∧ w.cell? ⟨b, o + k, none⟩ = some (byteV (l[k]'(by rw [h.1]; exact hk))) := by
  obtain ⟨b, o, e, hb, hc⟩ := h.2.2.2 (by omega)
  exact ⟨b, o, e, hb, hc k _ (List.getElem?_eq_getElem _)⟩
end

/-- the call hands back a slice that reads as l -/
def GivesBytes (w : World) (l : List UInt8) (e : Ending) (w' : World) : Prop := ∃ A n c, e = .returned (.slice A n c) ∧ Bytes w' w'.heap.size A n c l ∧ Below w.heap.size w w'
/-- a cell as a value -/
def RCell (w : World) (B : Nat) (v : Value) (c : Cell) : Prop :=
  ∃ A n cap, v = .agg #[.int .i64 c.kind, .slice A n cap, .int .i64 c.lo, .int .i64 c.hi, .int .i64 c.val] ∧ Bytes w B A n cap c.data ∧ In64 c.kind ∧ In64 c.lo ∧ In64 c.hi ∧ In64 c.val
theorem RCell.next {w w' : World} {v : Value} {c : Cell} (h : RCell w w.heap.size v c) (hb : Below w.heap.size w w') : RCell w' w'.heap.size v c := by
  obtain ⟨A, n, cap, e, hB, r⟩ := h
  exact ⟨A, n, cap, e, hB.next hb, r⟩
/-- an operation as a value -/
def ROp (w : World) (B : Nat) (v : Value) (x : OpX) : Prop :=
  ∃ A n cap, v = .agg #[.int .i64 x.act, .string x.key, .slice A n cap, .int .i64 x.lo, .int .i64 x.hi, .int .i64 x.n] ∧ Bytes w B A n cap x.data ∧ x.key.size ≤ maxLen ∧ In64 x.act ∧ In64 x.lo ∧ In64 x.hi ∧ In64 x.n
theorem ROp.next {w w' : World} {v : Value} {x : OpX} (h : ROp w w.heap.size v x) (hb : Below w.heap.size w w') : ROp w' w'.heap.size v x := by
  obtain ⟨A, n, cap, e, hB, r⟩ := h
  exact ⟨A, n, cap, e, hB.next hb, r⟩
end Go.Proofs.YtcfieofcnpalgaaGreat
end
section
namespace Go.Proofs.YtcfieofcnpalgaaGreat
open Go.ChangeShapes Go.WideShapes Go.ChangeAt Go.RowKit
open Go.ChangeMaps (open_string shut_string)
set_option linter.unusedVariables false
set_option maxRecDepth 100000

def RInt (w : World) (v : Value) (n : Int) : Prop := v = .int .i64 n ∧ -9223372036854775808 ≤ n ∧ n ≤ 9223372036854775807
def RU8 (w : World) (v : Value) (n : Int) : Prop := v = .int .u8 n ∧ 0 ≤ n ∧ n ≤ 255
section
variable {H : Type} {enc : TypeId × Value → H} {W : World} {base : Nat} {v : Value} {d : DataW H} {p : List MemPlace}
theorem open_i64 (hv : Value.okWide Tryz.prog W .any base 3 v) (h : DataW.Trod enc Tryz.prog W 0 (fun _ => true) true 3 v d p) : ∃ n, RInt W v n := by
  obtain ⟨n, rfl, _, _, hs⟩ := open_int Tryz.underlying3 hv h
  have hx : -9223372036854775808 ≤ n ∧ n ≤ 9223372036854775807 := by simpa [Lit.wf, IntKind.min, IntKind.max, IntKind.signed, IntKind.bits] using hs
  exact ⟨n, rfl, hx⟩
theorem in64 {n : Int} (h : (Lit.int .i64 n).wf = true) : In64 n := by simpa [In64, Lit.wf, IntKind.min, IntKind.max, IntKind.signed, IntKind.bits] using h
end
section
variable {H : Type} {enc : TypeId × Value → H} {P : Program} {w : World}
/-- a field of a struct, read by itself -/
theorem field_of {fuel : Nat} {t : TypeId} {cs : List Value} {x : DataW H × List MemPlace} {fs : Array Field} (ht : P.underlying t = some (.struct fs)) (h : DataW.trod enc P w 0 (fun _ => true) true fuel t cs = some x) :
    cs.length = P.cellsOf t ∧ ∃ n, ∀ (i : Nat) (ft : TypeId) (off k : Nat), (fs[i]?).map (fun f => (f.type, f.offset)) = some (ft, off) → P.cellsOf ft = k → ∃ y, DataW.trod enc P w 0 (fun _ => true) true n ft ((cs.drop off).take k) = some y := by
  obtain ⟨xs, n, _, _, hl, hx, hf⟩ := DataW.trod_struct ht h
  refine ⟨hl, n, fun i ft off k hi hk => ?_⟩
  obtain ⟨f, hi2, he⟩ := Option.map_eq_some_iff.1 hi
  clear hi
  simp only [Prod.mk.injEq] at he
  obtain ⟨rfl, rfl⟩ := he
  subst hk
  have hlt : i < fs.size := (Array.getElem?_eq_some_iff.1 hi2).1
  exact ⟨xs[i]'(by omega), (hf i f hi2).trans (List.getElem?_eq_getElem (by omega))⟩
end
section
variable {H : Type} {enc : TypeId × Value → H} {W : World} {base : Nat} {v : Value} {d : DataW H} {p : List MemPlace}
end
theorem own : ownKnob Tryz.prog.godebug = none := by kernel_rfl
theorem laidOut : laidOutB Tryz.prog = true := by kernel_rfl
end Go.Proofs.YtcfieofcnpalgaaGreat
end
section
namespace Go.Proofs.YtcfieofcnpalgaaGreat
open Go.RowKit

/-- bytes as a string -/
def strOf (l : List UInt8) : ByteArray := ⟨l.toArray⟩
theorem strOf_data (l : List UInt8) : (strOf l).data.toList = l := by simp [strOf]
/-- 'string(b)' -/
theorem run_str {P : Program} {w : World} {B n c : Nat} {A : Option Addr} {l : List UInt8} (src dst e : TypeId) (hs : P.underlying src = some (.slice e)) (he : P.underlying e = some (.int .u8)) (hd : P.underlying dst = some .string)
    (h : Bytes w B A n c l) : (convert src dst (.slice A n c)).run P w = .ok (.string (strOf l)) w := by
  obtain ⟨rfl, hc, hm, hx⟩ := h
  rcases A with _ | a
  · have hl : l.length = 0 := by
      rcases Nat.eq_zero_or_pos l.length with h0 | h0
      · exact h0
      · obtain ⟨b, o, e, _⟩ := hx h0
        cases e
    have : l = [] := List.eq_nil_of_length_eq_zero hl
    subst this
    exact Lib.run_convert_nil_bytes w src dst e c hs he hd
  · refine run_convert_bytes_back w src dst e a c l hs he hd (fun j hj => ?_)
    obtain ⟨b, o, e, _, hcell⟩ := hx (by omega)
    cases e
    have := hcell j l[j] (List.getElem?_eq_getElem hj)
    rw [show (⟨b, o, none⟩ : Addr).add j = ⟨b, o + j, none⟩ by unfold Addr.add; split <;> simp_all]
    exact this

theorem grown_setRow (w : World) (g : Nat) (cs : Array Value) : w.grownBy (w.setRow g cs) (some g) :=
  ⟨rfl, rfl, rfl, by simp [World.setRow], fun k _ hk => setRow_other w g k cs (fun e => hk (by rw [e]))⟩
/-- copy into a block that is known whole -/
theorem run_copy_to {P : Program} {w : World} (dT sT ty elem : TypeId) (hu : P.underlying dT = some (.slice elem)) (hsz : (P.info? elem).map (·.size) = some 1)
    (dp : Option Addr) (dLen dCap : Nat) (g off : Nat) (cur : List Value) (t : TypeId) (hg : w.heap[g]? = some (.cells cur.toArray t (0, 0)))
    (sp : Option Addr) (sLen sCap : Nat) (cs : List Value) (hn : cs.length = Nat.min sLen dLen)
    (hpos : 0 < cs.length → dp = some ⟨g, off, none⟩ ∧ ∃ ad, sp = some ad ∧ ∀ j v, cs[j]? = some v → w.cell? (ad.add j) = some v)
    (hfit : off + cs.length ≤ cur.length) (h1 : ∀ v ∈ cs, v.oneCell' = true) :
    ∃ w1, (Builtin.copy_ #[dT, sT] ty #[.slice dp dLen dCap, .slice sp sLen sCap]).run P w = .ok (goInt cs.length) w1 ∧ w1.heap[g]? = some (.cells (splice cur off cs).toArray t (0, 0)) ∧ w.grownBy w1 (some g) := by
  by_cases h0 : cs.length = 0
  · obtain rfl : cs = [] := List.eq_nil_of_length_eq_zero h0
    exact ⟨w, run_copy_none w dT sT ty elem dp sp dLen dCap sLen sCap hu hsz (by simpa using hn.symm), by simpa [splice] using hg, World.grownBy.refl w _⟩
  · obtain ⟨rfl, ad, rfl, hsrc⟩ := hpos (by omega)
    exact ⟨_, run_copy_row P w dT sT ty elem g off dLen dCap ad sLen sCap cur.toArray t cs hu hsz hg hn hsrc (by simpa using hfit) h1, by simpa [splice] using setRow_heap w g _ _ t _ hg, grown_setRow w g _⟩

/-- what is owned stays owned behind a call -/
theorem own_next {w w' : World} {base : Nat} {e : TypeId} {size n : Nat} {v : Value} {xs : List Value} (h : w.ownsRow base e size v n xs) (hb : Below w.heap.size w w') : w'.ownsRow base e size v n xs := by
  obtain ⟨h1, h2⟩ := h
  refine ⟨h1, ?_⟩
  rcases h2 with h2 | ⟨g, cap, cur, hv, hg, hh, r⟩
  · exact .inl h2
  · exact .inr ⟨g, cap, cur, hv, hg, (hb.block g (Array.getElem?_eq_some_iff.1 hh).1).trans hh, r⟩

theorem own_slice {w : World} {base : Nat} {e : TypeId} {size n : Nat} {v : Value} {xs : List Value} (h : w.ownsRow base e size v n xs) : ∃ A c, v = .slice A n c := by
  rcases h.2 with ⟨rfl, rfl⟩ | ⟨g, cap, cur, rfl, _⟩
  · exact ⟨_, _, rfl⟩
  · exact ⟨_, _, rfl⟩
theorem own_block {w : World} {base : Nat} {e : TypeId} {size n : Nat} {v : Value} {xs : List Value} (h : w.ownsRow base e size v n xs) : ∀ k, v.ownBlock = some k → base ≤ k := by
  intro k hk
  rcases h.2 with ⟨rfl, _⟩ | ⟨g, cap, cur, rfl, hg, _⟩
  · simp [Value.ownBlock] at hk
  · obtain rfl : g = k := by simpa [Value.ownBlock] using hk
    exact hg
/-- an append under a name that the walk does not look behind: a text that has 'app_fold' among its rules meets each append by an equation on its run -/
def appSem (ts : Array TypeId) (ty : TypeId) (args : Array Value) : Sem Value := Builtin.append_ ts ty args
theorem app_fold (ts : Array TypeId) (ty : TypeId) (args : Array Value) : Builtin.append_ ts ty args = appSem ts ty args := rfl

/-- append onto a row of the call's own; the source is nil, empty or not -/
theorem run_append_bytes {P : Program} (w : World) (base : Nat) (t ty e : TypeId) (i : TypeInfo) (z : Value) (ht : P.underlying t = some (.slice e)) (hi : P.info? e = some i) (hz : i.zero = some z)
    (hsize : i.size = 1) (hby : i.bytes = 1) (hzs : z.cells.size = 1) (v : Value) (n : Nat) (xs : List Value) (hown : w.ownsRow base e 1 v n xs)
    (B : Nat) (A : Option Addr) (m c : Nat) (l : List UInt8) (hr : Bytes w B A m c l) (hbytes : n + m ≤ 140737488355328) (hbase : base ≤ w.heap.size) :
    ∃ v' w', (appSem #[t, t] ty #[v, .slice A m c]).run P w = .ok v' w' ∧ w'.ownsRow base e 1 v' (n + m) (xs ++ l.map byteV) ∧ w.grownBy w' v.ownBlock := by
  have hm : l.length = m := hr.1
  rcases A with _ | ad
  · have h0 : m = 0 := by
      rcases Nat.eq_zero_or_pos m with h0 | h0
      · exact h0
      · obtain ⟨b, o, h, _⟩ := hr.2.2.2 h0
        cases h
    subst h0
    have hn : l = [] := List.eq_nil_of_length_eq_zero hm
    subst hn
    refine ⟨v, w, ?_, by simpa using hown, World.grownBy.refl w _⟩
    unfold appSem
    rcases hown.2 with ⟨rfl, rfl⟩ | ⟨g, cap, cur, rfl, _, _, hnc, _⟩
    · simp [Builtin.append_, run_underlying ht, sizeOf, typeInfo, hi, Builtin.lenOf, Builtin.firstCells]
    · simp [Builtin.append_, run_underlying ht, sizeOf, typeInfo, hi, Builtin.lenOf, Builtin.firstCells, hnc, storeCells]
  · have hcells : ∀ j u, (l.map byteV)[j]? = some u → w.cell? (ad.add j) = some u := by
      intro j u hu
      have hpos : 0 < (l.map byteV).length := Nat.lt_of_le_of_lt (Nat.zero_le _) (List.getElem?_eq_some_iff.1 hu).1
      obtain ⟨ad', e1, h2⟩ := hr.src hpos
      cases e1
      exact h2 j u hu
    obtain ⟨v', w', hrun, h2, h3, _, _⟩ := run_append_own_at (P := P) w base t ty e i z 1 1 ht hi hz hsize hby hzs (by decide) v n xs hown ad m c (l.map byteV) (by simp [hm]) hcells (byteV_one l) (by unfold maxLen; omega) (by omega) hbase
    exact ⟨v', w', hrun, h2, h3⟩
end Go.Proofs.YtcfieofcnpalgaaGreat
end
section
namespace Go.Proofs.YtcfieofcnpalgaaGreat
open Go.RowKit

/-- the address of a part, under a name that the walk does not look behind -/
def cutA (a : Option Addr) (l m s : Nat) : Option Addr := if m = l then a else a.map (·.add (l * s))
theorem cut_fold (a : Option Addr) (l h m s : Nat) : sliced a l h m s = .slice (cutA a l m s) (h - l) (m - l) := rfl

theorem Bytes.cut {w : World} {B n c : Nat} {A : Option Addr} {l : List UInt8} (h : Bytes w B A n c l) (lo hi m : Nat) (h1 : lo ≤ hi) (h2 : hi ≤ n) (h3 : hi ≤ m) (h4 : m ≤ c) :
    Bytes w B (cutA A lo m 1) (hi - lo) (m - lo) ((l.drop lo).take (hi - lo)) := by
  obtain ⟨hl, hc, hm, hx⟩ := h
  refine ⟨by simp; omega, by omega, by omega, fun hn => ?_⟩
  obtain ⟨b, o, rfl, hb, hcell⟩ := hx (by omega)
  unfold cutA
  rw [if_neg (by omega)]
  refine ⟨b, o + lo, by simp [add_none], hb, fun j u hu => ?_⟩
  rw [List.getElem?_take] at hu
  split at hu
  · rw [List.getElem?_drop] at hu
    rw [Nat.add_assoc]
    exact hcell _ u hu
  · cases hu
end Go.Proofs.YtcfieofcnpalgaaGreat
end
section
namespace Go.Proofs.YtcfieofcnpalgaaGreat
open Go.RowKit
set_option linter.unusedVariables false

/-- what reads below B in the one world reads so in the other -/
def Sub (B : Nat) (w w' : World) : Prop := ∀ (p : Addr) (v : Value), p.block < B → w.cell? p = some v → w'.cell? p = some v
theorem Sub.refl (B : Nat) (w : World) : Sub B w w := fun _ _ _ h => h
theorem Sub.trans {B : Nat} {a b c : World} (h : Sub B a b) (k : Sub B b c) : Sub B a c := fun p v hp hv => k p v hp (h p v hp hv)
theorem Sub.less {B B' : Nat} {a b : World} (h : Sub B a b) (hB : B' ≤ B) : Sub B' a b := fun p v hp hv => h p v (by omega) hv
theorem sub_below {B : Nat} {w w' : World} (h : Below B w w') : Sub B w w' := fun p v hp hv => (h.cell hp).trans hv
theorem Bytes.sub {w w' : World} {B n c : Nat} {A : Option Addr} {l : List UInt8} (h : Bytes w B A n c l) (hs : Sub B w w') : Bytes w' B A n c l :=
  ⟨h.1, h.2.1, h.2.2.1, fun hn => by
    obtain ⟨b, o, e, hb, hc⟩ := h.2.2.2 hn
    exact ⟨b, o, e, hb, fun j u hu => hs _ _ hb (hc j u hu)⟩⟩

/-- a world in which a block is empty -/
def hide (w : World) (g : Nat) : World := w.setRow g #[]
theorem hide_other (w : World) (g : Nat) (p : Addr) (h : p.block ≠ g) : (hide w g).cell? p = w.cell? p := World.cell?_of_block (setRow_other w g p.block #[] h)
theorem hide_none (w : World) (p : Addr) : (hide w p.block).cell? p = none := by
  unfold hide World.setRow World.cell?
  simp only [Array.getElem?_modify, if_true]
  cases hx : w.heap[p.block]? with
  | none => simp
  | some o => cases o <;> simp
theorem sub_hide (B : Nat) (w : World) (g : Nat) : Sub B (hide w g) w := by
  intro p v hp hv
  by_cases h : p.block = g
  · subst h; rw [hide_none] at hv; cases hv
  · rwa [hide_other w g p h] at hv
/-- what lies below a block does not hang on it -/
theorem sub_hide_lt {B g : Nat} (w : World) (h : B ≤ g) : Sub B w (hide w g) := fun p v hp hv => by rw [hide_other w g p (by omega)]; exact hv
theorem hide_sub_of {B g : Nat} {w w' : World} (h : ∀ k, k < B → k ≠ g → w'.heap[k]? = w.heap[k]?) : Sub B (hide w g) (hide w' g) := by
  intro p v hp hv
  by_cases hg : p.block = g
  · subst hg; rw [hide_none] at hv; cases hv
  · rw [hide_other w g p hg] at hv
    rw [hide_other w' g p hg, World.cell?_of_block (h p.block hp hg)]
    exact hv
/-- the row of a slice hidden -/
def hid (A : Option Addr) (w : World) : World := match A with
  | some a => hide w a.block
  | none => w
theorem sub_hid (B : Nat) (A : Option Addr) (w : World) : Sub B (hid A w) w := by
  cases A with
  | none => exact Sub.refl _ _
  | some a => exact sub_hide B w a.block
theorem hid_below {B : Nat} {w w' : World} (A : Option Addr) (h : Below B w w') : Sub B (hid A w) (hid A w') := by
  cases A with
  | none => exact sub_below h
  | some a => exact hide_sub_of fun k hk _ => h.block k hk
theorem hid_lt {B : Nat} (A : Option Addr) (w : World) (h : ∀ a, A = some a → B ≤ a.block) : Sub B w (hid A w) := by
  cases A with
  | none => exact Sub.refl _ _
  | some a => exact sub_hide_lt w (h a rfl)
theorem hid_grown {w w' : World} {A A' : Option Addr} (hg : w.grownBy w' ((Value.slice A 0 0).ownBlock)) (h : A' = A ∨ ∃ a, A' = some a ∧ a.block = w.heap.size) : Sub w.heap.size (hid A w) (hid A' w') := by
  rcases h with rfl | ⟨a, rfl, ha⟩
  · cases A' with
    | none => exact fun p v hp hv => (World.cell?_of_block (hg.block p.block hp (by simp [Value.ownBlock]))).trans hv
    | some a => exact hide_sub_of fun k hk hne => hg.block k hk (by simpa [Value.ownBlock] using hne)
  · intro p v hp hv
    show (hide w' a.block).cell? p = some v
    rw [hide_other w' a.block p (by omega)]
    cases A with
    | none => exact (World.cell?_of_block (hg.block p.block hp (by simp [Value.ownBlock]))).trans hv
    | some a0 =>
      by_cases h0 : p.block = a0.block
      · have : (hide w a0.block).cell? p = none := by rw [← h0]; exact hide_none w p
        change (hide w a0.block).cell? p = some v at hv
        rw [this] at hv
        cases hv
      · change (hide w a0.block).cell? p = some v at hv
        rw [hide_other w a0.block p h0] at hv
        exact (World.cell?_of_block (hg.block p.block hp (by simpa [Value.ownBlock] using h0))).trans hv

/-- how an element lies in memory -/
structure El (α : Type) where
  size : Nat
  pos : 0 < size
  rel : World → Nat → List Value → α → Prop
  len : ∀ {w B vs x}, rel w B vs x → vs.length = size
  one : ∀ {w B vs x}, rel w B vs x → ∀ v ∈ vs, v.oneCell' = true
  sub : ∀ {w w' B vs x}, Sub B w w' → rel w B vs x → rel w' B vs x
  more : ∀ {w B B' vs x}, B ≤ B' → rel w B vs x → rel w B' vs x

/-- side by side -/
def Rel2 {α : Type} (R : List Value → α → Prop) : List (List Value) → List α → Prop
  | [], [] => True
  | v :: vs, x :: xs => R v x ∧ Rel2 R vs xs
  | _, _ => False
section
variable {α : Type} {R R' : List Value → α → Prop}
theorem Rel2.length : ∀ {vs : List (List Value)} {xs : List α}, Rel2 R vs xs → vs.length = xs.length
  | [], [], _ => rfl
  | _ :: vs, _ :: xs, h => by simp [Rel2.length h.2]
  | [], _ :: _, h => h.elim
  | _ :: _, [], h => h.elim
theorem Rel2.imp (hi : ∀ v x, R v x → R' v x) : ∀ {vs : List (List Value)} {xs : List α}, Rel2 R vs xs → Rel2 R' vs xs
  | [], [], _ => trivial
  | _ :: vs, _ :: xs, h => ⟨hi _ _ h.1, Rel2.imp hi h.2⟩
  | [], _ :: _, h => h.elim
  | _ :: _, [], h => h.elim
theorem Rel2.append {vs2 : List (List Value)} {xs2 : List α} (h2 : Rel2 R vs2 xs2) : ∀ {vs : List (List Value)} {xs : List α}, Rel2 R vs xs → Rel2 R (vs ++ vs2) (xs ++ xs2)
  | [], [], _ => h2
  | _ :: vs, _ :: xs, h => ⟨h.1, Rel2.append h2 h.2⟩
  | [], _ :: _, h => h.elim
  | _ :: _, [], h => h.elim
theorem Rel2.take : ∀ (k : Nat) {vs : List (List Value)} {xs : List α}, Rel2 R vs xs → Rel2 R (vs.take k) (xs.take k)
  | 0, _, _, _ => by simp [Rel2]
  | _ + 1, [], [], _ => trivial
  | k + 1, _ :: vs, _ :: xs, h => ⟨h.1, Rel2.take k h.2⟩
  | _ + 1, [], _ :: _, h => h.elim
  | _ + 1, _ :: _, [], h => h.elim
theorem Rel2.drop : ∀ (k : Nat) {vs : List (List Value)} {xs : List α}, Rel2 R vs xs → Rel2 R (vs.drop k) (xs.drop k)
  | 0, _, _, h => by simpa using h
  | _ + 1, [], [], _ => trivial
  | k + 1, _ :: vs, _ :: xs, h => Rel2.drop k h.2
  | _ + 1, [], _ :: _, h => h.elim
  | _ + 1, _ :: _, [], h => h.elim
theorem Rel2.get : ∀ {vs : List (List Value)} {xs : List α} {j : Nat} {x : α}, Rel2 R vs xs → xs[j]? = some x → ∃ v, vs[j]? = some v ∧ R v x
  | v :: vs, y :: xs, 0, x, h, hx => by
    simp at hx; subst hx; exact ⟨v, rfl, h.1⟩
  | v :: vs, y :: xs, j + 1, x, h, hx => by
    obtain ⟨u, hu, hr⟩ := Rel2.get h.2 (by simpa using hx)
    exact ⟨u, by simpa using hu, hr⟩
  | [], [], j, x, h, hx => by simp at hx
  | [], _ :: _, _, _, h, _ => h.elim
  | _ :: _, [], _, _, h, _ => h.elim
theorem Rel2.set {v : List Value} {x : α} (hr : R v x) : ∀ {vs : List (List Value)} {xs : List α} (j : Nat), Rel2 R vs xs → Rel2 R (vs.set j v) (xs.set j x)
  | [], [], _, _ => by simp [Rel2]
  | _ :: vs, _ :: xs, 0, h => ⟨hr, h.2⟩
  | _ :: vs, _ :: xs, j + 1, h => ⟨h.1, Rel2.set hr j h.2⟩
  | [], _ :: _, _, h => h.elim
  | _ :: _, [], _, h => h.elim
theorem Rel2.flat {size : Nat} (hl : ∀ v x, R v x → v.length = size) : ∀ {vs : List (List Value)} {xs : List α}, Rel2 R vs xs → vs.flatten.length = xs.length * size
  | [], [], _ => by simp
  | v :: vs, _ :: xs, h => by
    rw [List.flatten_cons, List.length_append, hl _ _ h.1, Rel2.flat hl h.2, List.length_cons, Nat.add_mul]; omega
  | [], _ :: _, h => h.elim
  | _ :: _, [], h => h.elim
theorem Rel2.mem {v : List Value} : ∀ {vs : List (List Value)} {xs : List α}, Rel2 R vs xs → v ∈ vs → ∃ x, R v x
  | [], [], _, hm => by cases hm
  | u :: vs, x :: xs, h, hm => by
    rcases List.mem_cons.1 hm with rfl | hm
    · exact ⟨x, h.1⟩
    · exact Rel2.mem h.2 hm
  | [], _ :: _, h, _ => h.elim
  | _ :: _, [], h, _ => h.elim
end
/-- where an element's cells stand among all -/
theorem flat_at {size : Nat} : ∀ (vs : List (List Value)), (∀ v ∈ vs, v.length = size) → ∀ (j : Nat) (v : List Value) (i : Nat) (u : Value), vs[j]? = some v → v[i]? = some u → vs.flatten[j * size + i]? = some u
  | [], _, j, v, i, u, h, _ => by simp at h
  | v0 :: vs, hl, 0, v, i, u, h, hu => by
    simp at h; subst h
    have hi : i < v0.length := (List.getElem?_eq_some_iff.1 hu).1
    rw [List.flatten_cons, Nat.zero_mul, Nat.zero_add, List.getElem?_append_left hi]
    exact hu
  | v0 :: vs, hl, j + 1, v, i, u, h, hu => by
    have h0 := hl v0 (by simp)
    have := flat_at vs (fun x hx => hl x (by simp [hx])) j v i u (by simpa using h) hu
    rw [List.flatten_cons, List.getElem?_append_right (by rw [h0, Nat.add_mul]; omega), h0, show (j + 1) * size + i - size = j * size + i by rw [Nat.add_mul]; omega]
    exact this
theorem flat_take {size : Nat} : ∀ (vs : List (List Value)), (∀ v ∈ vs, v.length = size) → ∀ k, (vs.take k).flatten = vs.flatten.take (k * size)
  | [], _, k => by simp
  | v0 :: vs, hl, 0 => by simp
  | v0 :: vs, hl, k + 1 => by
    have h0 := hl v0 (by simp)
    rw [List.take_succ_cons, List.flatten_cons, List.flatten_cons, flat_take vs (fun x hx => hl x (by simp [hx])) k, List.take_append, h0, List.take_of_length_le (l := v0) (by rw [h0, Nat.add_mul]; omega), show (k + 1) * size - size = k * size by rw [Nat.add_mul]; omega]
theorem flat_drop {size : Nat} : ∀ (vs : List (List Value)), (∀ v ∈ vs, v.length = size) → ∀ k, (vs.drop k).flatten = vs.flatten.drop (k * size)
  | [], _, k => by simp
  | v0 :: vs, hl, 0 => by simp
  | v0 :: vs, hl, k + 1 => by
    have h0 := hl v0 (by simp)
    rw [List.drop_succ_cons, List.flatten_cons, flat_drop vs (fun x hx => hl x (by simp [hx])) k, List.drop_append, h0, List.drop_of_length_le (l := v0) (by rw [h0, Nat.add_mul]; omega), show (k + 1) * size - size = k * size by rw [Nat.add_mul]; omega, List.nil_append]

section
variable {α : Type} {E : El α} {w w' wr wr' : World} {B B' n c : Nat} {A : Option Addr} {l : List α}
/-- the slice (A, n, c) has its cells in w; what they read as is told by wr -/
def ElemsIn (E : El α) (wr w : World) (B : Nat) (A : Option Addr) (n c : Nat) (l : List α) : Prop :=
  ∃ vs, Rel2 (E.rel wr B) vs l ∧ l.length = n ∧ n ≤ c ∧ c ≤ maxLen ∧ (0 < n → ∃ b o, A = some ⟨b, o, none⟩ ∧ b < B ∧ ∀ j v, vs.flatten[j]? = some v → w.cell? ⟨b, o + j, none⟩ = some v)
/-- the slice (A, n, c) reads as l -/
def Elems (E : El α) (w : World) (B : Nat) (A : Option Addr) (n c : Nat) (l : List α) : Prop := ElemsIn E w w B A n c l
theorem ElemsIn.len (h : ElemsIn E wr w B A n c l) : l.length = n := by obtain ⟨_, _, h, _⟩ := h; exact h
theorem ElemsIn.cap (h : ElemsIn E wr w B A n c l) : n ≤ c ∧ c ≤ maxLen := by obtain ⟨_, _, _, h, h2, _⟩ := h; exact ⟨h, h2⟩
theorem ElemsIn.keep (h : ElemsIn E wr w B A n c l) (h1 : Sub B wr wr') (h2 : Sub B w w') : ElemsIn E wr' w' B A n c l := by
  obtain ⟨vs, hr, hl, hc, hm, hx⟩ := h
  refine ⟨vs, hr.imp fun _ _ => E.sub h1, hl, hc, hm, fun hn => ?_⟩
  obtain ⟨b, o, e, hb, hcell⟩ := hx hn
  exact ⟨b, o, e, hb, fun j v hv => h2 _ _ hb (hcell j v hv)⟩
theorem ElemsIn.more (h : ElemsIn E wr w B A n c l) (hB : B ≤ B') : ElemsIn E wr w B' A n c l := by
  obtain ⟨vs, hr, hl, hc, hm, hx⟩ := h
  refine ⟨vs, hr.imp fun _ _ => E.more hB, hl, hc, hm, fun hn => ?_⟩
  obtain ⟨b, o, e, hb, hcell⟩ := hx hn
  exact ⟨b, o, e, by omega, hcell⟩
theorem Elems.len (h : Elems E w B A n c l) : l.length = n := ElemsIn.len h
theorem Elems.cap (h : Elems E w B A n c l) : n ≤ c ∧ c ≤ maxLen := ElemsIn.cap h
theorem Elems.sub (h : Elems E w B A n c l) (hs : Sub B w w') : Elems E w' B A n c l := ElemsIn.keep h hs hs
theorem Elems.below (h : Elems E w B A n c l) (hb : Below B w w') : Elems E w' B A n c l := h.sub (sub_below hb)
theorem Elems.more (h : Elems E w B A n c l) (hB : B ≤ B') : Elems E w B' A n c l := ElemsIn.more h hB
theorem Elems.next (h : Elems E w w.heap.size A n c l) (hb : Below w.heap.size w w') : Elems E w' w'.heap.size A n c l := (h.below hb).more hb.size
theorem Elems.none_ (E : El α) (w : World) (B : Nat) : Elems E w B none 0 0 [] := ⟨[], trivial, rfl, Nat.le_refl _, by unfold maxLen; omega, fun h => absurd h (by omega)⟩
theorem Elems.drewN (h : Elems E w B A n c l) (k : Nat) : Elems E (w.drewN k) B A n c l := h.sub fun p v _ hv => hv
theorem ElemsIn.at_ {k : Nat} (h : ElemsIn E wr w B A n c l) (hk : k < n) : ∃ b o vs, A = some ⟨b, o, none⟩ ∧ b < B ∧ E.rel wr B vs (l[k]'(by rw [h.len]; exact hk)) ∧ ∀ i v, vs[i]? = some v → w.cell? ⟨b, o + k * E.size + i, none⟩ = some v := by
  obtain ⟨vss, hr, hl, hc, hm, hx⟩ := h
  obtain ⟨b, o, e, hb, hcell⟩ := hx (by omega)
  obtain ⟨vs, hvs, hrel⟩ := hr.get (List.getElem?_eq_getElem (by omega : k < l.length))
  refine ⟨b, o, vs, e, hb, hrel, fun i v hv => ?_⟩
  rw [Nat.add_assoc]
  exact hcell _ v (flat_at vss (fun x hx => by obtain ⟨y, hy⟩ := hr.mem hx; exact E.len hy) k vs i v hvs hv)
theorem Elems.at_ {k : Nat} (h : Elems E w B A n c l) (hk : k < n) : ∃ b o vs, A = some ⟨b, o, none⟩ ∧ b < B ∧ E.rel w B vs (l[k]'(by rw [h.len]; exact hk)) ∧ ∀ i v, vs[i]? = some v → w.cell? ⟨b, o + k * E.size + i, none⟩ = some v := ElemsIn.at_ h hk
theorem ElemsIn.cut (h : ElemsIn E wr w B A n c l) (lo hi m : Nat) (h1 : lo ≤ hi) (h2 : hi ≤ n) (h3 : hi ≤ m) (h4 : m ≤ c) :
    ElemsIn E wr w B (cutA A lo m E.size) (hi - lo) (m - lo) ((l.drop lo).take (hi - lo)) := by
  obtain ⟨vss, hr, hl, hc, hm, hx⟩ := h
  refine ⟨_, (hr.drop lo).take (hi - lo), by simp; omega, by omega, by omega, fun hn => ?_⟩
  obtain ⟨b, o, rfl, hb, hcell⟩ := hx (by omega)
  unfold cutA
  rw [if_neg (by omega)]
  refine ⟨b, o + lo * E.size, by simp [add_none], hb, fun j v hv => ?_⟩
  have hall : ∀ v ∈ vss, v.length = E.size := fun x hx => by obtain ⟨y, hy⟩ := hr.mem hx; exact E.len hy
  rw [flat_take _ (fun v hv => hall v (List.mem_of_mem_drop hv)), flat_drop _ hall, List.getElem?_take] at hv
  split at hv
  · rw [List.getElem?_drop] at hv
    rw [Nat.add_assoc]
    exact hcell _ v hv
  · cases hv
theorem Elems.cut (h : Elems E w B A n c l) (lo hi m : Nat) (h1 : lo ≤ hi) (h2 : hi ≤ n) (h3 : hi ≤ m) (h4 : m ≤ c) :
    Elems E w B (cutA A lo m E.size) (hi - lo) (m - lo) ((l.drop lo).take (hi - lo)) := ElemsIn.cut h lo hi m h1 h2 h3 h4

/-- a row of the call's own: what its elements read as does not hang on the row -/
def OwnE (E : El α) (T : TypeId) (w : World) (base : Nat) (A : Option Addr) (n c : Nat) (l : List α) : Prop :=
  ∃ vs, w.ownsRow base T E.size (.slice A n c) n vs.flatten ∧ Rel2 (E.rel (hid A w) w.heap.size) vs l
variable {T : TypeId} {base : Nat}
theorem OwnE.len (h : OwnE E T w base A n c l) : l.length = n := by
  obtain ⟨vs, h1, h2⟩ := h
  have e1 := h1.1
  rw [h2.flat (fun _ _ => E.len)] at e1
  exact Nat.eq_of_mul_eq_mul_right E.pos e1
theorem OwnE.none_ (E : El α) (T : TypeId) (w : World) (base : Nat) : OwnE E T w base none 0 0 [] := ⟨[], World.ownsRow_nil _ _ _ _, trivial⟩
theorem OwnE.next (h : OwnE E T w base A n c l) (hb : Below w.heap.size w w') : OwnE E T w' base A n c l := by
  obtain ⟨vs, h1, h2⟩ := h
  exact ⟨vs, own_next h1 hb, h2.imp fun _ _ hr => E.more hb.size (E.sub (hid_below A hb) hr)⟩
theorem OwnE.elemsIn (h : OwnE E T w base A n c l) : ElemsIn E (hid A w) w w.heap.size A n c l := by
  have hl := h.len
  obtain ⟨vs, h1, h2⟩ := h
  rcases h1.2 with ⟨e, h0⟩ | ⟨g, cap, cur, e, hg, hh, hnc, hm, hc, hx⟩
  · cases e
    exact ⟨vs, h2, hl, Nat.le_refl _, by unfold maxLen; omega, fun hp => absurd hp (by omega)⟩
  · cases e
    refine ⟨vs, h2, hl, hnc, hm, fun _ => ⟨g, 0, rfl, (Array.getElem?_eq_some_iff.1 hh).1, fun j u hu => ?_⟩⟩
    rw [← hx, List.getElem?_take] at hu
    split at hu
    · simp only [World.cell?, hh, Nat.zero_add]
      simpa using hu
    · cases hu
theorem OwnE.elems (h : OwnE E T w base A n c l) : Elems E w w.heap.size A n c l := h.elemsIn.keep (sub_hid _ A w) (Sub.refl _ _)
theorem OwnE.less {base' : Nat} (h : OwnE E T w base A n c l) (hb : base' ≤ base) : OwnE E T w base' A n c l := by
  obtain ⟨vs, h1, h2⟩ := h
  exact ⟨vs, ⟨h1.1, h1.2.imp id fun ⟨g, cap, cur, e1, hg, r⟩ => ⟨g, cap, cur, e1, Nat.le_trans hb hg, r⟩⟩, h2⟩
theorem OwnE.ge (h : OwnE E T w base A n c l) : ∀ a, A = some a → base ≤ a.block := by
  obtain ⟨vs, h1, h2⟩ := h
  rcases h1.2 with ⟨e, h0⟩ | ⟨g, cap, cur, e, hg, hh, hnc, hm, hc, hx⟩
  · cases e; intro a ha; cases ha
  · cases e; intro a ha; cases ha; exact hg
/-- a source that lies below the row -/
theorem OwnE.src {B2 n2 c2 : Nat} {A2 : Option Addr} {l2 : List α} (h : OwnE E T w base A n c l) (h2 : Elems E w B2 A2 n2 c2 l2) (hB : B2 ≤ base) (hw : base ≤ w.heap.size) : ElemsIn E (hid A w) w w.heap.size A2 n2 c2 l2 :=
  (ElemsIn.keep h2 (hid_lt A w fun a ha => Nat.le_trans hB (h.ge a ha)) (Sub.refl _ _)).more (Nat.le_trans hB hw)
/-- an append onto a row of the call's own -/
theorem OwnE.app {P : Program} (t ty : TypeId) (i : TypeInfo) (z : Value) (bytes : Nat) (ht : P.underlying t = some (.slice T)) (hi : P.info? T = some i) (hz : i.zero = some z) (hs : i.size = E.size) (hby : i.bytes = bytes) (hzs : z.cells.size = E.size)
    (h : OwnE E T w base A n c l) {n2 c2 : Nat} {A2 : Option Addr} {l2 : List α} (h2 : ElemsIn E (hid A w) w w.heap.size A2 n2 c2 l2) (h63 : n + n2 ≤ maxLen) (hbytes : (n + n2) * bytes ≤ 140737488355328) (hb : base ≤ w.heap.size) :
    ∃ A' c' w', (appSem #[t, t] ty #[.slice A n c, .slice A2 n2 c2]).run P w = .ok (.slice A' (n + n2) c') w' ∧ OwnE E T w' base A' (n + n2) c' (l ++ l2) ∧ Below base w w' ∧ w.grownBy w' ((Value.slice A 0 0).ownBlock) ∧ (A' = A ∨ ∃ a, A' = some a ∧ a.block = w.heap.size) := by
  have hgeA := h.ge
  obtain ⟨vs, h1, hr⟩ := h
  obtain ⟨vs2, hr2, hl2, hc2, hm2, hx2⟩ := h2
  have hcell : 0 < n2 → ∃ ad, A2 = some ad ∧ ∀ j v, vs2.flatten[j]? = some v → w.cell? (ad.add j) = some v := fun hp => by
    obtain ⟨b, o, e, hb, hcl⟩ := hx2 hp
    exact ⟨_, e, fun j v hv => by rw [add_none]; exact hcl j v hv⟩
  have hfl : vs2.flatten.length = n2 * E.size := by rw [hr2.flat (fun _ _ => E.len), hl2]
  have hone : ∀ v ∈ vs2.flatten, v.oneCell' = true := fun v hv => by
    obtain ⟨u, hu, hvu⟩ := List.mem_flatten.1 hv
    obtain ⟨x, hx⟩ := hr2.mem hu
    exact E.one hx v hvu
  have hown_A : ∀ k, (Value.slice A n c).ownBlock = some k → base ≤ k := own_block h1
  rcases Nat.eq_zero_or_pos n2 with h0 | h0
  · subst h0
    have e2 : vs2.flatten = [] := List.eq_nil_of_length_eq_zero (by simpa using hfl)
    have e3 : l2 = [] := List.eq_nil_of_length_eq_zero hl2
    subst e3
    refine ⟨A, c, w, ?_, ⟨vs, by simpa using h1, by simpa using hr⟩, Below.refl _ _, World.grownBy.refl w _, .inl rfl⟩
    have hl0 : ∀ a, (loadCells a 0).run P w = .ok #[] w := fun a => by simpa using run_loadCells_list (P := P) w a [] (by simp)
    unfold appSem
    rcases h1.2 with ⟨e, hn0⟩ | ⟨g, cap, cur, e, _, _, hnc, _⟩
    · cases e
      cases A2 <;> simp [Builtin.append_, run_underlying ht, sizeOf, typeInfo, hi, Builtin.lenOf, Builtin.firstCells, hl0]
    · cases e
      cases A2 <;> simp [Builtin.append_, run_underlying ht, sizeOf, typeInfo, hi, Builtin.lenOf, Builtin.firstCells, hnc, storeCells, hl0]
  · obtain ⟨ad, rfl, hnews⟩ := hcell h0
    obtain ⟨v', w', hrun, hown, hgr, _, hblk⟩ := run_append_own_at (P := P) w base t ty T i z E.size bytes ht hi hz hs hby hzs E.pos (.slice A n c) n vs.flatten h1 ad n2 c2 vs2.flatten hfl hnews hone h63 hbytes hb
    obtain ⟨A', c', rfl⟩ := own_slice hown
    have hgr' : w.grownBy w' ((Value.slice A 0 0).ownBlock) := by cases A <;> exact hgr
    have hA' : A' = A ∨ ∃ a, A' = some a ∧ a.block = w.heap.size := by
      rcases hblk with e | e
      · left
        rcases hown.2 with ⟨e1, h01⟩ | ⟨g, cap, cur, e1, _, _, _⟩
        · omega
        · cases e1
          cases A with
          | none => simp [Value.ownBlock] at e
          | some a =>
            rcases h1.2 with ⟨e2, _⟩ | ⟨g2, cap2, cur2, e2, _⟩
            · cases e2
            · cases e2
              simp [Value.ownBlock] at e
              rw [e]
      · right
        cases A' with
        | none => simp [Value.ownBlock] at e
        | some a => exact ⟨a, rfl, by simpa [Value.ownBlock] using e⟩
    refine ⟨A', c', w', hrun, ⟨vs ++ vs2, by simpa using hown, ?_⟩, (Below.refl _ w).grown hgr' hb (fun k hk => by cases A with | none => simp [Value.ownBlock] at hk | some a => exact hown_A k hk), hgr', hA'⟩
    have hsub := hid_grown hgr' hA'
    exact Rel2.append (hr2.imp fun _ _ hq => E.more hgr.size (E.sub hsub hq)) (hr.imp fun _ _ hq => E.more hgr.size (E.sub hsub hq))
end
end Go.Proofs.YtcfieofcnpalgaaGreat
end
section
namespace Go.Proofs.YtcfieofcnpalgaaGreat
open Go.RowKit

section
variable {W w' w1 : World}
theorem Bytes.held {A : Option Addr} {n c : Nat} {l : List UInt8} (h : Bytes W W.heap.size A n c l) (hs : (∀ b o, b < W.heap.size → w'.cell? ⟨b, o, none⟩ = W.cell? ⟨b, o, none⟩) ∧ Below W.heap.size W w') : Bytes w' W.heap.size A n c l := h.below hs.2
end

/-- block b is just these cells -/
def Str (w : World) (b : Nat) (cs : Array Value) : Prop := ∃ t, w.heap[b]? = some (.cells cs t (0, 0))
section
variable {w w' : World} {b : Nat} {cs : Array Value}
theorem Str.lt (h : Str w b cs) : b < w.heap.size := by
  obtain ⟨t, h⟩ := h
  exact (Array.getElem?_eq_some_iff.1 h).1
theorem Str.new (w : World) (cs : Array Value) (t : TypeId) : Str (w.alloc (.cells cs t)) w.heap.size cs := ⟨t, heap_alloc_new w _⟩
theorem Str.alloc (h : Str w b cs) (o : Obj) : Str (w.alloc o) b cs := by
  have hl := h.lt
  obtain ⟨t, h⟩ := h
  exact ⟨t, (Below.heap_alloc w o b hl).trans h⟩
theorem Str.next (h : Str w b cs) (hb : Below w.heap.size w w') : Str w' b cs := by
  have hl := h.lt
  obtain ⟨t, h⟩ := h
  exact ⟨t, (hb.block b hl).trans h⟩
theorem Str.below {B : Nat} (h : Str w b cs) (hb : Below B w w') (hB : b < B) : Str w' b cs := by
  obtain ⟨t, h⟩ := h
  exact ⟨t, (hb.block b hB).trans h⟩
theorem Str.cell (h : Str w b cs) (i : Nat) : w.cell? ⟨b, i, none⟩ = cs[i]? := by
  obtain ⟨t, h⟩ := h
  exact cell_of_row w b i cs t (0, 0) h
theorem Str.frozen (h : Str w b cs) (i : Nat) : w.frozen? ⟨b, i, none⟩ = false := by
  obtain ⟨t, h⟩ := h
  simp [World.frozen?, h]
theorem Str.drewN (h : Str w b cs) (n : Nat) : Str (w.drewN n) b cs := h
theorem str5 {c0 c1 c2 c3 c4 : Value} (h : Str w b #[c0, c1, c2, c3, c4]) :
    w.cell? ⟨b, 0, none⟩ = some c0 ∧ w.cell? ⟨b, 1, none⟩ = some c1 ∧ w.cell? ⟨b, 2, none⟩ = some c2 ∧ w.cell? ⟨b, 3, none⟩ = some c3 ∧ w.cell? ⟨b, 4, none⟩ = some c4 := ⟨h.cell 0, h.cell 1, h.cell 2, h.cell 3, h.cell 4⟩
theorem str6 {c0 c1 c2 c3 c4 c5 : Value} (h : Str w b #[c0, c1, c2, c3, c4, c5]) :
    w.cell? ⟨b, 0, none⟩ = some c0 ∧ w.cell? ⟨b, 1, none⟩ = some c1 ∧ w.cell? ⟨b, 2, none⟩ = some c2 ∧ w.cell? ⟨b, 3, none⟩ = some c3 ∧ w.cell? ⟨b, 4, none⟩ = some c4 ∧ w.cell? ⟨b, 5, none⟩ = some c5 := ⟨h.cell 0, h.cell 1, h.cell 2, h.cell 3, h.cell 4, h.cell 5⟩
theorem str7 {c0 c1 c2 c3 c4 c5 c6 : Value} (h : Str w b #[c0, c1, c2, c3, c4, c5, c6]) :
    w.cell? ⟨b, 0, none⟩ = some c0 ∧ w.cell? ⟨b, 1, none⟩ = some c1 ∧ w.cell? ⟨b, 2, none⟩ = some c2 ∧ w.cell? ⟨b, 3, none⟩ = some c3 ∧ w.cell? ⟨b, 4, none⟩ = some c4 ∧ w.cell? ⟨b, 5, none⟩ = some c5 ∧ w.cell? ⟨b, 6, none⟩ = some c6 := ⟨h.cell 0, h.cell 1, h.cell 2, h.cell 3, h.cell 4, h.cell 5, h.cell 6⟩
end
theorem new2 {w W : World} {c0 c1 : Array Value} {t0 t1 : TypeId} (h : (w.alloc (.cells c0 t0)).alloc (.cells c1 t1) = W) : Hid (Str W (w.heap.size) c0) ∧ Hid (Str W (w.heap.size + 1) c1) ∧ Hid (Below w.heap.size w W) ∧ w.heap.size ≤ W.heap.size ∧ W.heap.size = w.heap.size + 1 + 1 := by
  subst h
  exact ⟨Lib.hid (by have := (Str.new (w) c0 t0).alloc (.cells c1 t1); simpa using this), Lib.hid (by have := Str.new ((w).alloc (.cells c0 t0)) c1 t1; simpa using this), Lib.hid (balloc (balloc (bsame w) _) _), (balloc (balloc (bsame w) _) _).size, by simp⟩
theorem new3 {w W : World} {c0 c1 c2 : Array Value} {t0 t1 t2 : TypeId} (h : ((w.alloc (.cells c0 t0)).alloc (.cells c1 t1)).alloc (.cells c2 t2) = W) : Hid (Str W (w.heap.size) c0) ∧ Hid (Str W (w.heap.size + 1) c1) ∧ Hid (Str W (w.heap.size + 1 + 1) c2) ∧ Hid (Below w.heap.size w W) ∧ w.heap.size ≤ W.heap.size ∧ W.heap.size = w.heap.size + 1 + 1 + 1 := by
  subst h
  exact ⟨Lib.hid (by have := ((Str.new (w) c0 t0).alloc (.cells c1 t1)).alloc (.cells c2 t2); simpa using this), Lib.hid (by have := (Str.new ((w).alloc (.cells c0 t0)) c1 t1).alloc (.cells c2 t2); simpa using this), Lib.hid (by have := Str.new (((w).alloc (.cells c0 t0)).alloc (.cells c1 t1)) c2 t2; simpa using this), Lib.hid (balloc (balloc (balloc (bsame w) _) _) _), (balloc (balloc (balloc (bsame w) _) _) _).size, by simp⟩
end Go.Proofs.YtcfieofcnpalgaaGreat
end
