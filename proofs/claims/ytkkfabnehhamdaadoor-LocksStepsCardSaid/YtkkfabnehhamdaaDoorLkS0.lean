/-
  Parts of the proof of LocksSteps.
-/
import Derived.WalkKit
import Derived.WalkSpells
import Derived.WalkLawsBesides
import Derived.Lib.Hide
import Derived.Deep.Draws
import Derived.Deep.QuietTactic
import Derived.BigQuiet
import Derived.Test.YtkkfabnehhamdaaDoorProg
import Derived.ProofKit
import Derived.OpenShut
import Derived.ShutString
import Derived.ChangeOld
import Derived.Laws.BitsAllLaws
import Derived.Laws.BitsLemmas
import Derived.Test.YtkkfabnehhamdaaDoorRows
import Derived.LaidLaws
import Derived.ChangeArms
import Derived.RangeFuncNested
import Derived.Maps.OwnSet
import Derived.Maps.RangeWalk
section
namespace Go.Proofs.YtkkfabnehhamdaaDoor

/-- what a key has -/
structure Cell where
  kind : Int
  data : List UInt8
  lo : Int
  hi : Int
  val : Int

/-- an operation -/
structure OpX where
  act : Int
  key : ByteArray
  data : List UInt8
  lo : Int
  hi : Int
  n : Int

/-- a slot -/
structure Item where
  state : Int
  key : ByteArray
  cell : Cell

/-- how an operation is taken back -/
structure Undo where
  act : Int
  key : ByteArray
  item : Item
  n : Int

/-- a number of 64 bits -/
def In64 (n : Int) : Prop := -9223372036854775808 ≤ n ∧ n ≤ 9223372036854775807
end Go.Proofs.YtkkfabnehhamdaaDoor
end
section
namespace Go.Proofs.YtkkfabnehhamdaaDoor
open Go.RowKit

/-- one call behind another: nothing that lay before the first has turned -/
theorem bstep {a b c : World} (h : Below a.heap.size a b) (k : Below b.heap.size b c) : Below a.heap.size a c := h.trans (k.mono h.size)
theorem bsame (a : World) : Below a.heap.size a a := Below.refl _ _
theorem bdrewN {B : Nat} {a w : World} (h : Below B a w) (n : Nat) : Below B a (w.drewN n) := ⟨h.os, h.tape, h.output, h.size, h.block⟩
theorem balloc {a b : World} (h : Below a.heap.size a b) (o : Obj) : Below a.heap.size a (b.alloc o) := h.alloc h.size o
theorem lt_of_cell {w : World} {a : Addr} {v : Value} (h : w.cell? a = some v) : a.block < w.heap.size := by
  rcases Nat.lt_or_ge a.block w.heap.size with hl | hg
  · exact hl
  · unfold World.cell? at h
    rw [Array.getElem?_eq_none hg] at h
    cases h
/-- a byte as a value -/
def byteV (b : UInt8) : Value := .int .u8 (b.toNat : Int)
/-- the slice (A, n, c) reads as the bytes l, all below block B; nil and empty slices let in -/
def Bytes (w : World) (B : Nat) (A : Option Addr) (n c : Nat) (l : List UInt8) : Prop :=
  l.length = n ∧ n ≤ c ∧ c ≤ maxLen ∧ (0 < n → ∃ b o, A = some ⟨b, o, none⟩ ∧ b < B ∧ ∀ j u, l[j]? = some u → w.cell? ⟨b, o + j, none⟩ = some (byteV u))

section
variable {w w' : World} {B B' n c : Nat} {A : Option Addr} {l : List UInt8}
theorem Bytes.none_ (w : World) (B : Nat) : Bytes w B none 0 0 [] := ⟨rfl, Nat.le_refl _, by unfold maxLen; omega, fun h => absurd h (by omega)⟩
theorem Bytes.keep (h : Bytes w B A n c l) (hk : ∀ p : Addr, p.block < B → w'.cell? p = w.cell? p) : Bytes w' B A n c l :=
  ⟨h.1, h.2.1, h.2.2.1, fun hn => by
    obtain ⟨b, o, e, hb, hc⟩ := h.2.2.2 hn
    exact ⟨b, o, e, hb, fun j u hu => (hk _ hb).trans (hc j u hu)⟩⟩
theorem Bytes.more (h : Bytes w B A n c l) (hB : B ≤ B') : Bytes w B' A n c l :=
  ⟨h.1, h.2.1, h.2.2.1, fun hn => by
    obtain ⟨b, o, e, hb, hc⟩ := h.2.2.2 hn
    exact ⟨b, o, e, by omega, hc⟩⟩
theorem Bytes.below (h : Bytes w B A n c l) (hb : Below B w w') : Bytes w' B A n c l := h.keep fun _ hp => hb.cell hp
/-- a slice that was there lies there behind a call -/
theorem Bytes.next (h : Bytes w w.heap.size A n c l) (hb : Below w.heap.size w w') : Bytes w' w'.heap.size A n c l := (h.below hb).more hb.size
theorem Bytes.drewN (h : Bytes w B A n c l) (k : Nat) : Bytes (w.drewN k) B A n c l := h
theorem Bytes.alloc (h : Bytes w B A n c l) (hB : B ≤ w.heap.size) (o : Obj) : Bytes (w.alloc o) B A n c l := h.keep fun p hp => World.cell?_alloc_lt w o p (by omega)
theorem add_none (b o j : Nat) : (⟨b, o, none⟩ : Addr).add j = ⟨b, o + j, none⟩ := by unfold Addr.add; split <;> simp_all
/-- what a call owns reads as bytes -/
theorem Bytes.of_own {base : Nat} {e : TypeId} {v : Value} {k : Nat} (h : w.ownsRow base e 1 v k (l.map byteV)) : ∃ A n c, v = .slice A n c ∧ Bytes w w.heap.size A n c l := by
  obtain ⟨hl, h2⟩ := h
  have hk : l.length = k := by simpa using hl
  rcases h2 with ⟨rfl, h0⟩ | ⟨g, cap, cur, rfl, _, hg, hnc, hm, hsz, htk⟩
  · have : l = [] := List.eq_nil_of_length_eq_zero (by omega)
    subst this
    exact ⟨none, 0, 0, rfl, Bytes.none_ _ _⟩
  · refine ⟨_, _, _, rfl, hk, hnc, hm, fun hn => ⟨g, 0, rfl, (Array.getElem?_eq_some_iff.1 hg).1, fun j u hu => ?_⟩⟩
    have hj : j < l.length := (List.getElem?_eq_some_iff.1 hu).1
    have hx := congrArg (·[j]?) htk
    simp only [List.getElem?_take, List.getElem?_map, hu, Option.map_some] at hx
    rw [if_pos (by omega)] at hx
    unfold World.cell?
    simp only [hg, Nat.zero_add]
    simpa using hx
theorem Bytes.len (h : Bytes w B A n c l) : l.length = n := h.1
theorem Bytes.at_ {k : Nat} (h : Bytes w B A n c l) (hk : k < n) : ∃ b o, A = some ⟨b, o, none⟩ ∧ b < B ∧ w.cell? ⟨b, o + k, none⟩ = some (byteV (l[k]'(by rw [h.1]; exact hk))) := by
  obtain ⟨b, o, e, hb, hc⟩ := h.2.2.2 (by omega)
  exact ⟨b, o, e, hb, hc k _ (List.getElem?_eq_getElem _)⟩
end

/-- a cell as a value -/
def RCell (w : World) (B : Nat) (v : Value) (c : Cell) : Prop :=
  ∃ A n cap, v = .agg #[.int .i64 c.kind, .slice A n cap, .int .i64 c.lo, .int .i64 c.hi, .int .i64 c.val] ∧ Bytes w B A n cap c.data ∧ In64 c.kind ∧ In64 c.lo ∧ In64 c.hi ∧ In64 c.val
theorem RCell.next {w w' : World} {v : Value} {c : Cell} (h : RCell w w.heap.size v c) (hb : Below w.heap.size w w') : RCell w' w'.heap.size v c := by
  obtain ⟨A, n, cap, e, hB, r⟩ := h
  exact ⟨A, n, cap, e, hB.next hb, r⟩
/-- an operation as a value -/
def ROp (w : World) (B : Nat) (v : Value) (x : OpX) : Prop :=
  ∃ A n cap, v = .agg #[.int .i64 x.act, .string x.key, .slice A n cap, .int .i64 x.lo, .int .i64 x.hi, .int .i64 x.n] ∧ Bytes w B A n cap x.data ∧ x.key.size ≤ maxLen ∧ In64 x.act ∧ In64 x.lo ∧ In64 x.hi ∧ In64 x.n
theorem ROp.next {w w' : World} {v : Value} {x : OpX} (h : ROp w w.heap.size v x) (hb : Below w.heap.size w w') : ROp w' w'.heap.size v x := by
  obtain ⟨A, n, cap, e, hB, r⟩ := h
  exact ⟨A, n, cap, e, hB.next hb, r⟩
end Go.Proofs.YtkkfabnehhamdaaDoor
end
section
namespace Go.Proofs.YtkkfabnehhamdaaDoor
open Go.ChangeShapes Go.WideShapes Go.ChangeAt Go.RowKit
open Go.ChangeMaps (open_string shut_string)
set_option linter.unusedVariables false
set_option maxRecDepth 100000

def RStr (w : World) (v : Value) (s : ByteArray) : Prop := v = .string s ∧ s.size ≤ maxLen
def RInt (w : World) (v : Value) (n : Int) : Prop := v = .int .i64 n ∧ -9223372036854775808 ≤ n ∧ n ≤ 9223372036854775807
section
variable {H : Type} {enc : TypeId × Value → H} {W : World} {base : Nat} {v : Value} {d : DataW H} {p : List MemPlace}
theorem open_str (hv : Value.okWide Tryd.prog W .any base 9 v) (h : DataW.Trod enc Tryd.prog W 0 (fun _ => true) true 9 v d p) : ∃ s, RStr W v s := by
  obtain ⟨s, rfl, _, _, hs⟩ := open_string Tryd.underlying9 hv h
  exact ⟨s, rfl, hs⟩
theorem open_i64 (hv : Value.okWide Tryd.prog W .any base 3 v) (h : DataW.Trod enc Tryd.prog W 0 (fun _ => true) true 3 v d p) : ∃ n, RInt W v n := by
  obtain ⟨n, rfl, _, _, hs⟩ := open_int Tryd.underlying3 hv h
  have hx : -9223372036854775808 ≤ n ∧ n ≤ 9223372036854775807 := by simpa [Lit.wf, IntKind.min, IntKind.max, IntKind.signed, IntKind.bits] using hs
  exact ⟨n, rfl, hx⟩
theorem in64 {n : Int} (h : (Lit.int .i64 n).wf = true) : In64 n := by simpa [In64, Lit.wf, IntKind.min, IntKind.max, IntKind.signed, IntKind.bits] using h
end
section
variable {H : Type} {enc : TypeId × Value → H} {P : Program} {w : World}
/-- a field of a struct, read by itself -/
theorem field_of {fuel : Nat} {t : TypeId} {cs : List Value} {x : DataW H × List MemPlace} {fs : Array Field} (ht : P.underlying t = some (.struct fs)) (h : DataW.trod enc P w 0 (fun _ => true) true fuel t cs = some x) :
    cs.length = P.cellsOf t ∧ ∃ n, ∀ (i : Nat) (ft : TypeId) (off k : Nat), (fs[i]?).map (fun f => (f.type, f.offset)) = some (ft, off) → P.cellsOf ft = k → ∃ y, DataW.trod enc P w 0 (fun _ => true) true n ft ((cs.drop off).take k) = some y := by
  obtain ⟨xs, n, _, _, hl, hx, hf⟩ := DataW.trod_struct ht h
  refine ⟨hl, n, fun i ft off k hi hk => ?_⟩
  obtain ⟨f, hi2, he⟩ := Option.map_eq_some_iff.1 hi
  clear hi
  simp only [Prod.mk.injEq] at he
  obtain ⟨rfl, rfl⟩ := he
  subst hk
  have hlt : i < fs.size := (Array.getElem?_eq_some_iff.1 hi2).1
  exact ⟨xs[i]'(by omega), (hf i f hi2).trans (List.getElem?_eq_getElem (by omega))⟩
end
section
variable {H : Type} {enc : TypeId × Value → H} {W : World} {base : Nat} {v : Value} {d : DataW H} {p : List MemPlace}
end
theorem own : ownKnob Tryd.prog.godebug = none := by kernel_rfl
theorem laidOut : laidOutB Tryd.prog = true := by kernel_rfl
end Go.Proofs.YtkkfabnehhamdaaDoor
end
section
namespace Go.Proofs.YtkkfabnehhamdaaDoor.ModesP

def isM (m : Int) : Bool := decide (0 ≤ m) && decide (m < 4)
def compat (a b : Int) : Bool := (a == 0 && b == 0) || ((a == 2 || a == 3) && (b == 2 || b == 3))
def bitOf (m : Int) : Nat := 2 ^ m.toNat
def withM (s m : Int) : Int := ((s.toNat ||| bitOf m : Nat) : Int)
def hasM (s m : Int) : Bool := (s.toNat &&& bitOf m) != 0
def fitsUpto (s m : Int) : Nat → Bool
  | 0 => true
  | k + 1 => fitsUpto s m k && (!hasM s k || compat k m)
def fitsM (s m : Int) : Bool := fitsUpto s m 4

theorem or_i64 (a b : Nat) (ha : a < 16) (hb : b < 16) : bits .or .i64 (a : Int) (b : Int) = ((a ||| b : Nat) : Int) := by
  have h : ∀ x : Fin 16, ∀ y : Fin 16, bits .or .i64 (x.val : Int) (y.val : Int) = ((x.val ||| y.val : Nat) : Int) := by decide +kernel
  exact h ⟨a, ha⟩ ⟨b, hb⟩
theorem and_i64 (a b : Nat) (ha : a < 16) (hb : b < 16) : bits .and .i64 (a : Int) (b : Int) = ((a &&& b : Nat) : Int) := by
  have h : ∀ x : Fin 16, ∀ y : Fin 16, bits .and .i64 (x.val : Int) (y.val : Int) = ((x.val &&& y.val : Nat) : Int) := by decide +kernel
  exact h ⟨a, ha⟩ ⟨b, hb⟩

theorem four (m : Int) (h0 : 0 ≤ m) (h1 : m < 4) : m = 0 ∨ m = 1 ∨ m = 2 ∨ m = 3 := by omega

end Go.Proofs.YtkkfabnehhamdaaDoor.ModesP
end
section
namespace Go.Proofs.YtkkfabnehhamdaaDoor.Modes
open Go.RowKit

/-- the table of package modes lies as its initialiser lays it -/
def Tab (w : World) : Prop := ∀ a b : Nat, a < 4 → b < 4 → w.cell? ⟨0, a * 4 + b, none⟩ = some (.bool (ModesP.compat a b))
theorem Tab.lt {w : World} (h : Tab w) : 0 < w.heap.size := lt_of_cell (h 0 0 (by decide) (by decide))
theorem Tab.below {B : Nat} {w w' : World} (h : Tab w) (hb : Below B w w') (hB : 0 < B) : Tab w' := fun a b ha hb' => (hb.cell (p := ⟨0, a * 4 + b, none⟩) hB).trans (h a b ha hb')

set_option maxHeartbeats 400000 in
theorem is_any (m : Int) (w : World) :
    Calls Tryd.prog 36 #[.int .i64 m] w fun e w' => e = .returned (.bool (ModesP.isM m)) ∧ w = w' := by
  unfold ModesP.isM
  go_enter Tryd.func36, Tryd.ntmps36
  go_wp2
  all_goals go_ret
  all_goals simp_all
  all_goals omega

theorem isM_yes (m : Int) (h0 : 0 ≤ m) (h1 : m < 4) : ModesP.isM m = true := by simp [ModesP.isM, h0, h1]
theorem isM_no (m : Int) (h : m < 0 ∨ 4 ≤ m) : ModesP.isM m = false := by
  unfold ModesP.isM
  rcases h with h | h
  · rw [decide_eq_false (by omega : ¬ 0 ≤ m)]; rfl
  · rw [decide_eq_false (by omega : ¬ m < 4), Bool.and_false]
theorem compat_no (a b : Int) (h : a < 0 ∨ 4 ≤ a ∨ b < 0 ∨ 4 ≤ b) : ModesP.compat a b = false := by
  cases hc : ModesP.compat a b
  · rfl
  · simp [ModesP.compat] at hc
    omega

set_option maxHeartbeats 400000 in
theorem compat_any (a b : Int) (w : World) (hT : Tab w) :
    Calls Tryd.prog 33 #[.int .i64 a, .int .i64 b] w fun e w' => e = .returned (.bool (ModesP.compat a b)) ∧ w = w' := by
  have HT := Lib.hid hT
  clear hT
  by_cases ha : 0 ≤ a ∧ a < 4
  · have ia := isM_yes a ha.1 ha.2
    by_cases hb : 0 ≤ b ∧ b < 4
    · have ib := isM_yes b hb.1 hb.2
      obtain ⟨n, rfl⟩ := Int.eq_ofNat_of_zero_le ha.1
      obtain ⟨m, rfl⟩ := Int.eq_ofNat_of_zero_le hb.1
      have hn : n < 4 := by omega
      have hm : m < 4 := by omega
      have hc := HT.out n m hn hm
      clear ha hb
      go_enter Tryd.func33, Tryd.ntmps33
      go_wp2_with (go_at_call 36; refine (is_any _ _).mono ?_; rintro e w' ⟨rfl, rfl⟩)
      go_ret
      exact ⟨rfl, rfl⟩
    · have ib := isM_no b (by omega)
      have HC := Lib.hid (compat_no a b (by omega))
      go_enter Tryd.func33, Tryd.ntmps33
      go_wp2_with (go_at_call 36; refine (is_any _ _).mono ?_; rintro e w' ⟨rfl, rfl⟩)
      go_ret
      rw [HC.out]
      exact ⟨rfl, rfl⟩
  · have ia := isM_no a (by omega)
    have HC := Lib.hid (compat_no a b (by omega))
    go_enter Tryd.func33, Tryd.ntmps33
    go_wp2_with (go_at_call 36; refine (is_any _ _).mono ?_; rintro e w' ⟨rfl, rfl⟩)
    go_ret
    rw [HC.out]
    exact ⟨rfl, rfl⟩

theorem or_at (s m : Int) (k : Nat) (h0 : 0 ≤ s) (h1 : s < 16) (hk : k < 16) (hm : ModesP.bitOf m = k) : bits .or .i64 s (k : Int) = ModesP.withM s m := by
  obtain ⟨n, rfl⟩ := Int.eq_ofNat_of_zero_le h0
  rw [ModesP.or_i64 n k (by omega) hk, ModesP.withM, hm, Int.toNat_natCast]
theorem and_at (s m : Int) (k : Nat) (h0 : 0 ≤ s) (h1 : s < 16) (hk : k < 16) (hm : ModesP.bitOf m = k) : (bits .and .i64 s (k : Int) != 0) = ModesP.hasM s m := by
  obtain ⟨n, rfl⟩ := Int.eq_ofNat_of_zero_le h0
  rw [ModesP.and_i64 n k (by omega) hk, ModesP.hasM, hm, Int.toNat_natCast, Bool.eq_iff_iff]
  simp

set_option maxHeartbeats 400000 in
theorem with_any (s m : Int) (w : World) (h0 : 0 ≤ s) (h1 : s < 16) (h2 : 0 ≤ m) (h3 : m < 4) :
    Calls Tryd.prog 47 #[.int .i64 s, .int .i64 m] w fun e w' => e = .returned (.int .i64 (ModesP.withM s m)) ∧ w = w' := by
  have ia := isM_yes m h2 h3
  rcases ModesP.four m h2 h3 with rfl | rfl | rfl | rfl
  · have HO := Lib.hid (or_at s 0 1 h0 h1 (by decide) rfl)
    go_enter Tryd.func47, Tryd.ntmps47
    go_wp2_with (go_at_call 36; refine (is_any _ _).mono ?_; rintro e w' ⟨rfl, rfl⟩)
    go_ret
    exact ⟨congrArg (fun n => Ending.returned (.int .i64 n)) HO.out, rfl⟩
  · have HO := Lib.hid (or_at s 1 2 h0 h1 (by decide) rfl)
    go_enter Tryd.func47, Tryd.ntmps47
    go_wp2_with (go_at_call 36; refine (is_any _ _).mono ?_; rintro e w' ⟨rfl, rfl⟩)
    go_ret
    exact ⟨congrArg (fun n => Ending.returned (.int .i64 n)) HO.out, rfl⟩
  · have HO := Lib.hid (or_at s 2 4 h0 h1 (by decide) rfl)
    go_enter Tryd.func47, Tryd.ntmps47
    go_wp2_with (go_at_call 36; refine (is_any _ _).mono ?_; rintro e w' ⟨rfl, rfl⟩)
    go_ret
    exact ⟨congrArg (fun n => Ending.returned (.int .i64 n)) HO.out, rfl⟩
  · have HO := Lib.hid (or_at s 3 8 h0 h1 (by decide) rfl)
    go_enter Tryd.func47, Tryd.ntmps47
    go_wp2_with (go_at_call 36; refine (is_any _ _).mono ?_; rintro e w' ⟨rfl, rfl⟩)
    go_ret
    exact ⟨congrArg (fun n => Ending.returned (.int .i64 n)) HO.out, rfl⟩

set_option maxHeartbeats 400000 in
theorem has_any (s m : Int) (w : World) (h0 : 0 ≤ s) (h1 : s < 16) (h2 : 0 ≤ m) (h3 : m < 4) :
    Calls Tryd.prog 12 #[.int .i64 s, .int .i64 m] w fun e w' => e = .returned (.bool (ModesP.hasM s m)) ∧ w = w' := by
  have ia := isM_yes m h2 h3
  rcases ModesP.four m h2 h3 with rfl | rfl | rfl | rfl
  · have HO := Lib.hid (and_at s 0 1 h0 h1 (by decide) rfl)
    go_enter Tryd.func12, Tryd.ntmps12
    go_wp2_with (go_at_call 36; refine (is_any _ _).mono ?_; rintro e w' ⟨rfl, rfl⟩)
    go_ret
    exact ⟨congrArg (fun n => Ending.returned (.bool n)) HO.out, rfl⟩
  · have HO := Lib.hid (and_at s 1 2 h0 h1 (by decide) rfl)
    go_enter Tryd.func12, Tryd.ntmps12
    go_wp2_with (go_at_call 36; refine (is_any _ _).mono ?_; rintro e w' ⟨rfl, rfl⟩)
    go_ret
    exact ⟨congrArg (fun n => Ending.returned (.bool n)) HO.out, rfl⟩
  · have HO := Lib.hid (and_at s 2 4 h0 h1 (by decide) rfl)
    go_enter Tryd.func12, Tryd.ntmps12
    go_wp2_with (go_at_call 36; refine (is_any _ _).mono ?_; rintro e w' ⟨rfl, rfl⟩)
    go_ret
    exact ⟨congrArg (fun n => Ending.returned (.bool n)) HO.out, rfl⟩
  · have HO := Lib.hid (and_at s 3 8 h0 h1 (by decide) rfl)
    go_enter Tryd.func12, Tryd.ntmps12
    go_wp2_with (go_at_call 36; refine (is_any _ _).mono ?_; rintro e w' ⟨rfl, rfl⟩)
    go_ret
    exact ⟨congrArg (fun n => Ending.returned (.bool n)) HO.out, rfl⟩

theorem fits_stop (s m : Int) (k j : Nat) (h : ModesP.hasM s k = true) (hc : ModesP.compat k m = false) (hk : k < j) : ModesP.fitsUpto s m j = false := by
  induction j with
  | zero => omega
  | succ j ih =>
    rcases Nat.lt_or_eq_of_le (Nat.le_of_lt_succ hk) with hl | rfl
    · simp [ModesP.fitsUpto, ih hl]
    · simp [ModesP.fitsUpto, h, hc]

set_option maxHeartbeats 400000 in
theorem fits_any (s m : Int) (w : World) (hT : Tab w) (h0 : 0 ≤ s) (h1 : s < 16) (h2 : 0 ≤ m) (h3 : m < 4) :
    Calls Tryd.prog 14 #[.int .i64 s, .int .i64 m] w fun e w' => e = .returned (.bool (ModesP.fitsM s m)) ∧ w = w' := by
  have HT := Lib.hid hT
  clear hT
  have ia := isM_yes m h2 h3
  go_enter Tryd.func14, Tryd.ntmps14
  go_wp2_with (go_at_call 36; refine (is_any _ _).mono ?_; rintro e w' ⟨rfl, rfl⟩)
  go_loop [9] (fun i => ∃ k : Nat, k ≤ 4 ∧ i = .int .i64 k ∧ ModesP.fitsUpto s m k = true) (fun i => 4 - (intOf i).toNat)
  case atStart => exact ⟨0, Nat.zero_le _, rfl, rfl⟩
  case round =>
    obtain ⟨k, hk, rfl, hf⟩ := hrel
    have HF := Lib.hid hf
    clear hf
    by_cases hlt : k < 4
    · cases hh : ModesP.hasM s k
      · go_wp2_with (first
          | (go_at_call 12; refine (has_any _ _ _ h0 h1 (by omega) (by omega)).mono ?_; rintro e w' ⟨rfl, rfl⟩)
          | (go_at_call 33; refine (compat_any _ _ _ HT.out).mono ?_; rintro e w' ⟨rfl, rfl⟩))
        go_round
        case rel => exact ⟨k + 1, by omega, by go_num, by simp [ModesP.fitsUpto, HF.out, hh]⟩
        case measure => simp [intOf]; omega
      · cases hc : ModesP.compat k m
        · have HS := Lib.hid (fits_stop s m k 4 hh hc hlt)
          go_wp2_with (first
            | (go_at_call 12; refine (has_any _ _ _ h0 h1 (by omega) (by omega)).mono ?_; rintro e w' ⟨rfl, rfl⟩)
            | (go_at_call 33; refine (compat_any _ _ _ HT.out).mono ?_; rintro e w' ⟨rfl, rfl⟩))
          go_ret
          rw [ModesP.fitsM, HS.out]
          exact ⟨rfl, rfl⟩
        · go_wp2_with (first
            | (go_at_call 12; refine (has_any _ _ _ h0 h1 (by omega) (by omega)).mono ?_; rintro e w' ⟨rfl, rfl⟩)
            | (go_at_call 33; refine (compat_any _ _ _ HT.out).mono ?_; rintro e w' ⟨rfl, rfl⟩))
          go_round
          case rel => exact ⟨k + 1, by omega, by go_num, by simp [ModesP.fitsUpto, HF.out, hc]⟩
          case measure => simp [intOf]; omega
    · obtain rfl : k = 4 := by omega
      go_wp2
      go_ret
      rw [ModesP.fitsM, HF.out]
      exact ⟨rfl, rfl⟩

end Go.Proofs.YtkkfabnehhamdaaDoor.Modes
end
section
namespace Go.Proofs.YtkkfabnehhamdaaDoor.Tab
open Go.RowKit

section
variable {H : Type} {enc : TypeId × Value → H} {P : Program} {w : World} {base : Nat} {sp : Nat → Bool} {held : Bool}
/-- an array of bools, read -/
theorem row_bools {fuel n : Nat} {t e : TypeId} {cs : List Value} {r : List Bool} {p : List MemPlace} (ht : P.underlying t = some (.array n e)) (he : P.underlying e = some .bool) (hce : P.cellsOf e = 1)
    (h : DataW.trod enc P w base sp held fuel t cs = some (.agg (r.map fun b => .lit (.bool b)), p)) (j : Nat) (hj : j < n) (b : Bool) (hb : r[j]? = some b) : cs[j]? = some (.bool b) := by
  obtain ⟨xs, m, _, hx, _, hl, hi⟩ := DataW.trod_array ht h
  have hj' := hi j hj
  have hxj : xs[j]? = some (xs[j]'(by omega)) := List.getElem?_eq_getElem (by omega)
  rw [hxj, hce] at hj'
  obtain ⟨b', hc, hx'⟩ := DataW.trod_bool he hj'
  have h1 : xs.map (·.1) = r.map fun b => (DataW.lit (.bool b) : DataW H) := by
    have := congrArg Prod.fst hx
    simpa using this.symm
  have h2 := congrArg (·[j]?) h1
  simp only [List.getElem?_map, hxj, hb, Option.map_some, Option.some.injEq, hx'] at h2
  have h3 : b' = b := by simpa using h2
  subst h3
  have := congrArg (·[0]?) hc
  simpa [List.getElem?_take, List.getElem?_drop] using this
/-- an array of arrays of bools, read -/
theorem rows_bools {fuel n k : Nat} {t t1 e : TypeId} {cs : List Value} {rs : List (List Bool)} {p : List MemPlace} (ht : P.underlying t = some (.array n t1)) (ht1 : P.underlying t1 = some (.array k e)) (he : P.underlying e = some .bool) (hce : P.cellsOf e = 1) (hc1 : P.cellsOf t1 = k)
    (h : DataW.trod enc P w base sp held fuel t cs = some (.agg (rs.map fun r => .agg (r.map fun b => .lit (.bool b))), p)) (i j : Nat) (hi : i < n) (hj : j < k) (r : List Bool) (b : Bool) (hr : rs[i]? = some r) (hb : r[j]? = some b) :
    cs[i * k + j]? = some (.bool b) := by
  obtain ⟨xs, m, _, hx, _, hl, hrow⟩ := DataW.trod_array ht h
  have hi' := hrow i hi
  have hxi : xs[i]? = some (xs[i]'(by omega)) := List.getElem?_eq_getElem (by omega)
  rw [hxi, hc1] at hi'
  have h1 : xs.map (·.1) = rs.map fun r => (DataW.agg (r.map fun b => .lit (.bool b)) : DataW H) := by
    have := congrArg Prod.fst hx
    simpa using this.symm
  have h2 := congrArg (·[i]?) h1
  simp only [List.getElem?_map, hxi, hr, Option.map_some, Option.some.injEq] at h2
  have h3 : xs[i]'(by omega) = (.agg (r.map fun b => .lit (.bool b)), (xs[i]'(by omega)).2) := by rw [← h2]
  rw [h3] at hi'
  have := row_bools ht1 he hce hi' j hj b hb
  rw [List.getElem?_take, if_pos hj, List.getElem?_drop] at this
  exact this
end

theorem gTab : Tryd.prog.globalNamed "moneyer/modes.together" = some 0 := by kernel_rfl
theorem gTabType : (Tryd.prog.globals[0]?).map (·.type) = some 105 := by kernel_rfl
theorem cellsRow : Tryd.prog.cellsOf 104 = 4 := by kernel_rfl
theorem cellsBool : Tryd.prog.cellsOf 4 = 1 := by kernel_rfl
def rows : List (List Bool) := [[true, false, false, false], [false, false, false, false], [false, false, true, true], [false, false, true, true]]

/-- what the row lists gives the walks -/
theorem tab_of {W : World} {rest : List (String × DataW Unit)} (h : laidMet Tryd.prog (("moneyer/modes.together", Rows.laid_moneyer_modes_together) :: rest) W) : Modes.Tab W := by
  obtain ⟨ps, ⟨g', t', cs, fuel, p, q, hg', ht', hvar, hd, _, _⟩, _⟩ := h
  obtain rfl := Option.some.inj (gTab.symm.trans hg')
  obtain rfl := Option.some.inj (gTabType.symm.trans ht')
  intro a b ha hb
  rw [World.var?_cell gTab hvar]
  have hr : ∀ a' b' : Fin 4, ∃ r, rows[a'.val]? = some r ∧ r[b'.val]? = some (ModesP.compat (a'.val : Int) (b'.val : Int)) := by
    intro a' b'
    match a', b' with
    | 0, 0 => exact ⟨_, rfl, rfl⟩
    | 0, 1 => exact ⟨_, rfl, rfl⟩
    | 0, 2 => exact ⟨_, rfl, rfl⟩
    | 0, 3 => exact ⟨_, rfl, rfl⟩
    | 1, 0 => exact ⟨_, rfl, rfl⟩
    | 1, 1 => exact ⟨_, rfl, rfl⟩
    | 1, 2 => exact ⟨_, rfl, rfl⟩
    | 1, 3 => exact ⟨_, rfl, rfl⟩
    | 2, 0 => exact ⟨_, rfl, rfl⟩
    | 2, 1 => exact ⟨_, rfl, rfl⟩
    | 2, 2 => exact ⟨_, rfl, rfl⟩
    | 2, 3 => exact ⟨_, rfl, rfl⟩
    | 3, 0 => exact ⟨_, rfl, rfl⟩
    | 3, 1 => exact ⟨_, rfl, rfl⟩
    | 3, 2 => exact ⟨_, rfl, rfl⟩
    | 3, 3 => exact ⟨_, rfl, rfl⟩
  obtain ⟨r, hr1, hr2⟩ := hr ⟨a, ha⟩ ⟨b, hb⟩
  have := rows_bools (rs := rows) Tryd.underlying105 Tryd.underlying104 Tryd.underlying4 cellsBool cellsRow hd a b ha hb r _ hr1 hr2
  simpa using this
end Go.Proofs.YtkkfabnehhamdaaDoor.Tab
end
section
namespace Go.Proofs.YtkkfabnehhamdaaDoor
open Go.RowKit
set_option linter.unusedVariables false
/-- the loops' own blocks lie as they lay -/
structure Tools (B : Nat) (W W' : World) : Prop where
  size : W.heap.size ≤ W'.heap.size
  loops : ∀ k r, B ≤ k → W.heap[k]? = some (.loop r) → W'.heap[k]? = some (.loop r)
  marks : ∀ k d, B ≤ k → W.heap[k]? = some (.deferred d) → W'.heap[k]? = some (.deferred d)
theorem Tools.trans {B : Nat} {a b c : World} (h : Tools B a b) (k : Tools B b c) : Tools B a c := ⟨Nat.le_trans h.size k.size, fun i r hi e => k.loops i r hi (h.loops i r hi e), fun i d hi e => k.marks i d hi (h.marks i d hi e)⟩
/-- what an iterator promises that turns nothing itself -/
def SeqB {α : Type} (F : Fence) (n : Nat) (P : Program) (g : Nat) (lb : Array Value) (encs : α → Array Value) (Kp : World → World → Prop) (S : List α → Prop) (N : Nat) (w : World) : Prop :=
  ∀ (l : Nat) (J : List α → World → Prop) (W : World), Below w.heap.size w W → (∀ pre A B, J pre A → Below A.heap.size A B → J pre B) →
    (∀ pre x W1, J pre W1 → pre.length < N → YieldAt F (n - 1) P l (encs x) W1 fun e W' => e = .returned (.bool true) ∧ J (pre ++ [x]) W' ∧ Kp W1 W') →
    J [] W → CallsIn F n P g (#[.func (.yield l) #[] #[]] ++ lb) W fun e W' => (∃ v, e = .returned v) ∧ ∃ xs, S xs ∧ J xs W'
section
variable {F : Fence} {n : Nat} {P : Program}
/-- a loop over an iterator that turns nothing itself: its rounds may make what they will -/
theorem range_all {α : Type} {g : Operand} {ps : Array Tmp} {assign body : Code} {Q : Exit → Act → World → Prop} {a : Act} {w : World}
    (hro : F.round = none) (h1 : 1 ≤ n) {gf : Nat} {lb : Array Value} (hg : a.eval g = .func (.func gf) #[] lb) (hFg : F.fn gf) (eg : ∀ args w, (callFunc gf args).run P w = .ok (.enter gf args) w)
    {encs : α → Array Value} {Kp : World → World → Prop} {S : List α → Prop} {N : Nat} (hseq : SeqB F (n - 1) P gf lb encs Kp S N w)
    (hKt : ∀ {A B C : World}, Kp A B → Kp B C → Kp A C) (hKb : ∀ (W : World) (l : Nat) (r r' : Loop), w.heap.size ≤ l → W.heap[l]? = some (.loop r) → Kp W (W.putObj l (.loop r'))) (hps : ∀ x, (encs x).size = ps.size)
    (I : List α → World → Prop) (I2 : List α → α → Act → World → Prop)
    (hIb : ∀ pre A B, I pre A → Below A.heap.size A B → I pre B) (hIp : ∀ pre (W : World) (l : Nat) (r r' : Loop), w.heap.size ≤ l → W.heap[l]? = some (.loop r) → I pre W → I pre (W.putObj l (.loop r')))
    (hI2p : ∀ pre x a' (W : World) (l : Nat) (r r' : Loop), w.heap.size ≤ l → W.heap[l]? = some (.loop r) → I2 pre x a' W → I2 pre x a' (W.putObj l (.loop r')))
    (h0 : I [] w)
    (hassign : ∀ (l : Nat) (pre : List α) (x : α) (W : World), I pre W → pre.length < N → assign.wpIn (F.inRound l) (n - 1 - 1) P (Exit.then (fun a' W' => Tools w.heap.size W W' ∧ Kp W W' ∧ I2 pre x a' W') (fun _ _ _ => False)) { tmps := (ps.zip (encs x)).foldl (fun t (p, v) => t.setIfInBounds p v) a.tmps, defers := [] } W)
    (hbody : ∀ (l : Nat) (pre : List α) (x : α) (a' : Act) (W : World), I2 pre x a' W → pre.length < N → body.wpIn (F.inRound l) (n - 1 - 1) P (fun e _ W' => e = .normal ∧ Tools w.heap.size W W' ∧ Kp W W' ∧ I (pre ++ [x]) W') a' W)
    (hdone : ∀ (D : Nat) (xs : List α) (W : World), w.heap.size ≤ D → S xs → I xs W → W.heap[D]? = some (.deferred (some [])) → Q .normal { a with defers := { target := .collected D, args := #[] } :: a.defers } W) :
    (Code.rangeFunc g ps assign body).wpIn F n P Q a w := by
  refine wpIn_rangeFunc ?_
  intro fn hfn
  rw [hro]
  obtain ⟨rec, hrec⟩ : ∃ rec : LoopState → Option Code → Loop, rec = fun st pe => { state := st, pending := pe, fn, tmps := a.tmps, params := ps, assign, body, defers := w.heap.size } := ⟨_, rfl⟩
  obtain ⟨W1, hW1⟩ : ∃ W1, (w.alloc (.deferred (some []))).alloc (.loop (rec .ready none)) = W1 := ⟨_, rfl⟩
  have hb1 : Below w.heap.size w W1 := by rw [← hW1]; exact balloc (balloc (bsame w) _) _
  have hL1 : W1.heap[w.heap.size + 1]? = some (.loop (rec .ready none)) := by
    rw [← hW1]; have := World.alloc_heap_new (w.alloc (.deferred (some []))) (.loop (rec .ready none)); rwa [World.size_alloc] at this
  have hK1 : W1.heap[w.heap.size]? = some (.deferred (some [])) := by
    rw [← hW1]; exact ((balloc (bsame (w.alloc (.deferred (some [])))) _).block _ (by simp)).trans (World.alloc_heap_new w _)
  refine ⟨w.heap.size + 1, [{ target := .collected w.heap.size, args := #[] }], W1, { target := .fn (.func gf) lb, args := #[.func (.yield (w.heap.size + 1)) #[] #[]] }, W1, gf,
    #[.func (.yield (w.heap.size + 1)) #[] #[]] ++ lb, W1, ?_, ?_, ?_, ?_, fun _ => h1, ?_⟩
  · rw [← hW1, hrec]; exact run_enterLoop_outer _ _ _ _ _
  · simp only [resolve, hg]
    simp [go_sem]
  · intro f' hf'; simp [Target.leads] at hf'; subst hf'; exact hFg
  · simp [invoke, go_sem, eg]
  · refine (hseq (w.heap.size + 1) (fun pre W => I pre W ∧ W.heap[w.heap.size + 1]? = some (.loop (rec .ready none)) ∧ W.heap[w.heap.size]? = some (.deferred (some []))) W1 hb1
      (fun pre A B h hb => ⟨hIb pre A B h.1 hb, (hb.block _ (Array.getElem?_eq_some_iff.1 h.2.1).1).trans h.2.1, (hb.block _ (Array.getElem?_eq_some_iff.1 h.2.2).1).trans h.2.2⟩) ?_ ⟨hIb _ _ _ h0 hb1, hL1, hK1⟩).mono ?_
    · rintro pre x W ⟨hi, hl, hk⟩ hlen
      have hy := run_yield (P := P) (args := encs x) hl (by rw [hrec]; exact hps x)
      rw [hrec] at hy
      refine ⟨fn, _, assign, body, hy, roundIn_of_wpIn hfn (wpIn_mono (hassign _ pre x W hi hlen) ?_)⟩
      rintro e a2 W2 hp
      cases e with
      | normal =>
        obtain ⟨ht2, hk2, hi2⟩ := hp
        have hl2 := ht2.loops _ _ (by omega) hl
        have hm2 := ht2.marks _ _ (Nat.le_refl _) hk
        have hlt2 := (Array.getElem?_eq_some_iff.1 hl2).1
        refine ⟨_, run_beginRound hl2 (by rw [hrec]), ?_⟩
        have hl3 : (W2.putObj (w.heap.size + 1) (.loop { rec .ready none with state := .busy })).heap[w.heap.size + 1]? = some (.loop { rec .ready none with state := .busy }) := World.putObj_heap_same hlt2
        have hm3 : (W2.putObj (w.heap.size + 1) (.loop { rec .ready none with state := .busy })).heap[w.heap.size]? = some (.deferred (some [])) := (World.putObj_heap_other (by omega)).trans hm2
        refine wpIn_mono (hbody _ pre x a2 _ (hI2p pre x a2 W2 _ _ _ (by omega) hl2 hi2) hlen) ?_
        rintro e a4 W4 ⟨rfl, ht4, hk4, hi4⟩
        have hl4 := ht4.loops _ _ (by omega) hl3
        have hm4 := ht4.marks _ _ (Nat.le_refl _) hm3
        have hr := run_endRound (P := P) none hl4
        refine ⟨_, _, hr, rfl, ⟨hIp _ W4 _ _ _ (by omega) hl4 hi4, ?_, (World.putObj_heap_other (by omega)).trans hm4⟩, hKt (hKt hk2 (hKb W2 _ _ _ (by omega) hl2)) (hKt hk4 (hKb W4 _ _ _ (by omega) hl4))⟩
        rw [World.putObj_heap_same (Array.getElem?_eq_some_iff.1 hl4).1, hrec]
        rfl
      | _ => exact hp.elim
    · rintro e W2 ⟨⟨v, rfl⟩, xs, hS, hi, hl, hk⟩
      exact ⟨none, _, by have := run_endLoop (P := P) hl (by rw [hrec]; simp); rw [hrec] at this; exact this, hdone _ xs _ (Nat.le_refl _) hS (hIp _ W2 _ _ _ (by omega) hl hi) ((World.putObj_heap_other (by omega)).trans hk)⟩
end
end Go.Proofs.YtkkfabnehhamdaaDoor
end
section
namespace Go.Proofs.YtkkfabnehhamdaaDoor
open Go.RowKit Go.Maps
set_option linter.unusedVariables false
set_option linter.unusedSectionVars false
/-- how keys stand in the model -/
structure KeyS (K : Type) [DecidableEq K] where
  val : K → Value
  lit : K → Lit
  same : ∀ a b, (lit a).sameKey (lit b) = decide (a = b)
/-- how elements stand in the model -/
structure ElS (α : Type) where
  val : α → Value
  inv : Value → Option α
  inv_val : ∀ a, inv (val a) = some a
  val_inv : ∀ {v a}, inv v = some a → v = val a
namespace MapP
variable {K α : Type} [DecidableEq K]
abbrev T (K α : Type) := List (K × α)
def del (L : T K α) (k : K) : T K α := L.filter fun p => decide (p.1 ≠ k)
def has (L : T K α) (k : K) : Bool := L.any fun p => decide (p.1 = k)
def get (L : T K α) (k : K) : Option α := (L.find? fun p => decide (p.1 = k)).map (·.2)
def ins (lt : K → K → Bool) (p : K × α) : T K α → T K α
  | [] => [p]
  | y :: r => if lt p.1 y.1 then p :: y :: r else y :: ins lt p r
def put (lt : K → K → Bool) (L : T K α) (k : K) (v : α) : T K α := ins lt (k, v) (del L k)
variable {lt : K → K → Bool}
theorem mem_ins {p y : K × α} : ∀ {L : T K α}, y ∈ ins lt p L ↔ y = p ∨ y ∈ L
  | [] => by simp [ins]
  | z :: r => by
    unfold ins
    split
    · simp
    · simp only [List.mem_cons, mem_ins (L := r)]
      constructor
      · rintro (h | h | h)
        · exact .inr (.inl h)
        · exact .inl h
        · exact .inr (.inr h)
      · rintro (h | h | h)
        · exact .inr (.inl h)
        · exact .inl h
        · exact .inr (.inr h)
theorem mem_del {L : T K α} {k : K} {y : K × α} : y ∈ del L k ↔ y ∈ L ∧ y.1 ≠ k := by simp [del]
theorem mem_put {L : T K α} {k : K} {v : α} {y : K × α} : y ∈ put lt L k v ↔ y = (k, v) ∨ (y ∈ L ∧ y.1 ≠ k) := by rw [put, mem_ins, mem_del]
theorem has_false {L : T K α} {k : K} : has L k = false ↔ ∀ p ∈ L, p.1 ≠ k := by simp [has]
theorem has_get (L : T K α) (k : K) : has L k = (get L k).isSome := by
  unfold has get
  induction L with
  | nil => rfl
  | cons y r ih =>
    rw [List.any_cons, List.find?_cons]
    cases decide (y.1 = k) with
    | true => rfl
    | false => simpa using ih
theorem get_none {L : T K α} {k : K} : get L k = none ↔ ∀ p ∈ L, p.1 ≠ k := by
  rw [← has_false, has_get]
  cases get L k <;> simp
theorem get_mem {L : T K α} {k : K} {v : α} (h : get L k = some v) : (k, v) ∈ L := by
  unfold get at h
  rw [Option.map_eq_some_iff] at h
  obtain ⟨⟨a, b⟩, h1, rfl⟩ := h
  have h2 := List.mem_of_find?_eq_some h1
  have h3 := List.find?_some h1
  simp at h3
  subst h3
  exact h2
def Nd (L : T K α) : Prop := (L.map (·.1)).Nodup
theorem get_of {L : T K α} (h : Nd L) {k : K} {v : α} (hm : (k, v) ∈ L) : get L k = some v := by
  induction L with
  | nil => cases hm
  | cons y r ih =>
    have hn := List.nodup_cons.1 h
    unfold get
    rw [List.find?_cons]
    rcases List.mem_cons.1 hm with e | e
    · subst e; simp
    · have hne : y.1 ≠ k := fun e2 => hn.1 (List.mem_map.2 ⟨_, e, e2.symm⟩)
      have : decide (y.1 = k) = false := by simpa using hne
      rw [this]
      exact ih hn.2 e
theorem nd_del {L : T K α} (h : Nd L) (k : K) : Nd (del L k) := List.Sublist.nodup (List.Sublist.map _ List.filter_sublist) h
theorem perm_ins (p : K × α) : ∀ L : T K α, (ins lt p L).Perm (p :: L)
  | [] => List.Perm.refl _
  | y :: r => by
    unfold ins
    split
    · exact List.Perm.refl _
    · exact ((perm_ins p r).cons y).trans (List.Perm.swap p y r)
theorem nd_put {L : T K α} (h : Nd L) (k : K) (v : α) : Nd (put lt L k v) := by
  unfold Nd put
  rw [((perm_ins (lt := lt) (k, v) (del L k)).map _).nodup_iff]
  refine List.nodup_cons.2 ⟨fun hm => ?_, nd_del h k⟩
  obtain ⟨p, hp, e⟩ := List.mem_map.1 hm
  exact (mem_del.1 hp).2 e
theorem get_del {L : T K α} (k k' : K) : get (del L k) k' = if k' = k then none else get L k' := by
  split
  · rename_i e
    subst e
    exact get_none.2 fun p hp => (mem_del.1 hp).2
  · rename_i hne
    unfold get del
    rw [List.find?_filter]
    congr 2
    funext p
    by_cases e : p.1 = k'
    · simp [e, hne]
    · simp [e]
theorem get_put {L : T K α} (h : Nd L) (k : K) (v : α) (k' : K) : get (put lt L k v) k' = if k' = k then some v else get L k' := by
  have hn := nd_put (lt := lt) h k v
  split
  · rename_i e
    subst e
    exact get_of hn (mem_put.2 (.inl rfl))
  · rename_i hne
    cases hg : get L k' with
    | none =>
      refine get_none.2 fun p hp e => ?_
      rcases mem_put.1 hp with rfl | hp
      · exact hne e.symm
      · exact get_none.1 hg p hp.1 e
    | some u => exact get_of hn (mem_put.2 (.inr ⟨get_mem hg, hne⟩))
/-! ### as a map's datum -/
def ent (S : KeyS K) (p : K × α) : Lit × DataW α := (S.lit p.1, .held p.2)
def dat (S : KeyS K) (L : T K α) : DataW α := .map (L.map (ent S))
/-- how a map's elements read -/
def rdE (E : ElS α) (v : Value) : Option (DataW α × List MemPlace) := (E.inv v).map fun a => (.held a, [])
variable (S : KeyS K) (E : ElS α)
theorem rd_val (a : α) : rdE E (E.val a) = some (.held a, []) := by simp [rdE, E.inv_val]
theorem rd_inv {v : Value} {y : DataW α × List MemPlace} (h : rdE E v = some y) : ∃ a, v = E.val a ∧ y = (.held a, []) := by
  unfold rdE at h
  rw [Option.map_eq_some_iff] at h
  obtain ⟨a, h1, rfl⟩ := h
  exact ⟨a, E.val_inv h1, rfl⟩
theorem has_dat (L : T K α) (k : K) : Maps.has (dat S L) (S.lit k) = has L k := by
  unfold dat has
  rw [Maps.has_eq, List.any_map]
  congr 1
  funext y
  exact S.same y.1 k
theorem find_dat (L : T K α) (k : K) : (L.map (ent S)).find? (fun p => p.1.sameKey (S.lit k)) = (L.find? fun y => decide (y.1 = k)).map (ent S) := by
  induction L with
  | nil => rfl
  | cons y r ih =>
    rw [List.map_cons, List.find?_cons, List.find?_cons]
    have e : (ent S y).1.sameKey (S.lit k) = decide (y.1 = k) := S.same y.1 k
    rw [e]
    split
    · rfl
    · exact ih
theorem at_dat (L : T K α) (k : K) (z : α) : (dat S L).atKey (S.lit k) (.held z) = .held ((get L k).getD z) := by
  unfold dat DataW.atKey get
  dsimp only
  rw [find_dat]
  cases L.find? (fun y => decide (y.1 = k)) <;> rfl
theorem filter_dat (L : T K α) (k : K) : (L.map (ent S)).filter (fun p => !p.1.sameKey (S.lit k)) = (del L k).map (ent S) := by
  unfold del
  induction L with
  | nil => rfl
  | cons y r ih =>
    rw [List.map_cons, List.filter_cons, List.filter_cons, ih]
    have e : (ent S y).1.sameKey (S.lit k) = decide (y.1 = k) := S.same y.1 k
    rw [e]
    by_cases h : y.1 = k
    · simp [h]
    · simp [h]
def ltK (S : KeyS K) (a b : K) : Bool := (S.lit a).before (S.lit b)
theorem ins_dat (p : K × α) : ∀ L : T K α, DataW.insert (ent S p) (L.map (ent S)) = (ins (MapP.ltK S) p L).map (ent S)
  | [] => rfl
  | y :: r => by
    rw [List.map_cons]
    unfold DataW.insert ins
    have e : (ent S p).1.before (ent S y).1 = MapP.ltK S p.1 y.1 := rfl
    rw [e]
    by_cases h : MapP.ltK S p.1 y.1 = true
    · simp [h]
    · simp [h, ins_dat p r]
theorem del_dat (L : T K α) (k : K) : (dat S L).del (S.lit k) = dat S (del L k) := by
  unfold dat DataW.del
  dsimp only
  rw [filter_dat]
theorem put_dat (L : T K α) (k : K) (v : α) : (dat S L).put (S.lit k) (.held v) = dat S (put (MapP.ltK S) L k v) := by
  unfold dat DataW.put put
  dsimp only
  rw [filter_dat]
  exact congrArg DataW.map (ins_dat S (k, v) _)
theorem size_dat (L : T K α) : Maps.size (dat S L) = L.length := by simp [dat, Maps.size]
/-- an entry, as the map tells it -/
theorem at_ent {L : T K α} {k : K} {d : DataW α} (h : ∀ z, (dat S L).atKey (S.lit k) z = d) : ∃ v, get L k = some v ∧ d = .held v := by
  unfold dat DataW.atKey at h
  dsimp only at h
  rw [find_dat] at h
  unfold get
  cases hf : L.find? (fun y => decide (y.1 = k)) with
  | none =>
    rw [hf] at h
    have h1 := h .nil
    have h2 := h (.lit (.bool true))
    rw [← h2] at h1
    cases h1
  | some t =>
    rw [hf] at h
    exact ⟨t.2, rfl, (h .nil).symm⟩
end MapP
/-- a map in memory: its keys' type, its block, at most n entries -/
structure MapM {K α : Type} [DecidableEq K] (P : Program) (S : KeyS K) (E : ElS α) (kt : TypeId) (w : World) (b n : Nat) (L : MapP.T K α) : Prop where
  own : w.ownsMap P kt (MapP.rdE E) b n (MapP.dat S L)
  nd : MapP.Nd L
namespace MapM
variable {K α : Type} [DecidableEq K] {P : Program} {S : KeyS K} {E : ElS α} {kt et t : TypeId} {w w' : World} {b n : Nat} {L : MapP.T K α}
theorem lt (h : MapM P S E kt w b n L) : b < w.heap.size := h.own.lt
theorem at_ (h : MapM P S E kt w b n L) (hb : w'.heap[b]? = w.heap[b]?) : MapM P S E kt w' b n L := by
  obtain ⟨es, clock, hh, r⟩ := h.own
  exact ⟨⟨es, clock, hb.trans hh, r⟩, h.nd⟩
theorem made (w : World) : MapM P S E kt (w.alloc (.map #[] 0)) w.heap.size 0 [] := ⟨World.ownsMap_made w P kt _, List.nodup_nil⟩
theorem mono (h : MapM P S E kt w b n L) {m : Nat} (hm : n ≤ m) : MapM P S E kt w b m L := ⟨h.own.mono hm, h.nd⟩
theorem size_le (h : MapM P S E kt w b n L) : L.length ≤ n := by
  have := h.own.size_le
  rwa [MapP.size_dat] at this
theorem look (h : MapM P S E kt w b n L) (Kd : Keyed P kt) (ht : P.underlying t = some (.map kt et)) {z : α} (hz : (zeroValue et).run P w = .ok (E.val z) w) {k : K} (hk : keyOf P kt (S.val k) = some (S.lit k)) :
    (Instr.lookup t (.map (some b)) (S.val k) false).run P w = .ok (E.val ((MapP.get L k).getD z)) w := by
  obtain ⟨v, ps, hrun, hv⟩ := h.own.lookup Kd ht hz (MapP.rd_val E z) hk
  rw [MapP.at_dat] at hv
  obtain ⟨a, rfl, e⟩ := MapP.rd_inv E hv
  simp only [Prod.mk.injEq, DataW.held.injEq] at e
  rw [e.1, hrun]
theorem look_ok (h : MapM P S E kt w b n L) (Kd : Keyed P kt) (ht : P.underlying t = some (.map kt et)) {z : α} (hz : (zeroValue et).run P w = .ok (E.val z) w) {k : K} (hk : keyOf P kt (S.val k) = some (S.lit k)) :
    (Instr.lookup t (.map (some b)) (S.val k) true).run P w = .ok (.tuple #[E.val ((MapP.get L k).getD z), .bool (MapP.has L k)]) w := by
  obtain ⟨v, ps, hrun, hv⟩ := h.own.look_ok Kd ht hz (MapP.rd_val E z) hk
  rw [MapP.at_dat] at hv
  obtain ⟨a, rfl, e⟩ := MapP.rd_inv E hv
  simp only [Prod.mk.injEq, DataW.held.injEq] at e
  rw [e.1, hrun, MapP.has_dat]
theorem store (h : MapM P S E kt w b n L) (Kd : Keyed P kt) (ht : P.underlying t = some (.map kt et)) (hn : n < maxLen) {k : K} (hk : keyOf P kt (S.val k) = some (S.lit k)) (v : α) :
    ∃ w', (Instr.mapUpdate t (.map (some b)) (S.val k) (E.val v)).run P w = .ok () w' ∧ MapM P S E kt w' b (n + 1) (MapP.put (MapP.ltK S) L k v) ∧ w.mapTurned w' b := by
  obtain ⟨w', h1, h2, h3⟩ := h.own.store Kd ht hn hk (MapP.rd_val E v)
  rw [MapP.put_dat] at h2
  exact ⟨w', h1, ⟨h2, MapP.nd_put h.nd k v⟩, h3⟩
theorem drop (h : MapM P S E kt w b n L) (Kd : Keyed P kt) (ht : P.underlying t = some (.map kt et)) {k : K} (hk : keyOf P kt (S.val k) = some (S.lit k)) (ty : TypeId) :
    ∃ w', (Builtin.delete_ #[t, kt] ty #[.map (some b), S.val k]).run P w = .ok (.tuple #[]) w' ∧ MapM P S E kt w' b n (MapP.del L k) ∧ w.mapTurned w' b := by
  obtain ⟨w', h1, h2, h3⟩ := h.own.drop Kd ht hk ty
  rw [MapP.del_dat] at h2
  exact ⟨w', h1, ⟨h2, MapP.nd_del h.nd k⟩, h3⟩
theorem len (h : MapM P S E kt w b n L) (ht : P.underlying t = some (.map kt et)) (ty : TypeId) : (Builtin.len_ #[t] ty #[.map (some b)]).run P w = .ok (.int .i64 (L.length : Nat)) w := by
  rw [h.own.len ht ty, MapP.size_dat]
/-- all is taken out -/
theorem clear (h : MapM P S E kt w b n L) (ht : P.underlying t = some (.map kt et)) (ty : TypeId) :
    ∃ w', (Builtin.clear_ #[t] ty #[.map (some b)]).run P w = .ok (.tuple #[]) w' ∧ MapM P S E kt w' b 0 [] ∧ w.mapTurned w' b := by
  obtain ⟨es, clock, hb, F, hs, hD⟩ := h.own
  refine ⟨Go.ChangeMaps.setBlock w b (.map #[] clock), ?_, ⟨⟨#[], clock, Go.ChangeMaps.heap_setBlock_same hb _, ⟨by simp, MapKept.stamped_empty clock, by simp⟩, Nat.le_refl _, rfl⟩, List.nodup_nil⟩, ⟨es, clock, #[], clock, hb, rfl⟩⟩
  unfold Builtin.clear_
  simp [run_underlying ht, MapKept.run_getObj_map hb, MapKept.run_setObj_map _ hb, Go.ChangeMaps.setBlock]
end MapM
/-- numbers as keys -/
def intK : KeyS Int where
  val k := .int .i64 k
  lit k := .int .i64 k
  same a b := by simp [Lit.sameKey]
end Go.Proofs.YtkkfabnehhamdaaDoor
end
