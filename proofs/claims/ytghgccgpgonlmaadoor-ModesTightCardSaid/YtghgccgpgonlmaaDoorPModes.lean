/-
  Plain words on modes: which go together, sets of them. No program in sight.
-/
import Derived.Laws.BitsAllLaws
import Derived.Laws.BitsLemmas
namespace Go.Proofs.YtghgccgpgonlmaaDoor.ModesP

def isM (m : Int) : Bool := decide (0 ≤ m) && decide (m < 4)
def compat (a b : Int) : Bool := (a == 0 && b == 0) || ((a == 2 || a == 3) && (b == 2 || b == 3))
def ofDo (d : Int) : Int := if d = 0 then 0 else if d = 1 then 1 else if d = 2 then 1 else if d = 3 then 1 else if d = 4 then 2 else if d = 5 then 3 else -1
def commuteM (d1 : Int) (k1 : ByteArray) (d2 : Int) (k2 : ByteArray) : Bool := isM (ofDo d1) && (isM (ofDo d2) && (!(k1.toList == k2.toList) || compat (ofDo d1) (ofDo d2)))
def bitOf (m : Int) : Nat := 2 ^ m.toNat
def withM (s m : Int) : Int := ((s.toNat ||| bitOf m : Nat) : Int)
def hasM (s m : Int) : Bool := (s.toNat &&& bitOf m) != 0
def fitsUpto (s m : Int) : Nat → Bool
  | 0 => true
  | k + 1 => fitsUpto s m k && (!hasM s k || compat k m)
def fitsM (s m : Int) : Bool := fitsUpto s m 4

theorem or_i64 (a b : Nat) (ha : a < 16) (hb : b < 16) : bits .or .i64 (a : Int) (b : Int) = ((a ||| b : Nat) : Int) := by
  have h : ∀ x : Fin 16, ∀ y : Fin 16, bits .or .i64 (x.val : Int) (y.val : Int) = ((x.val ||| y.val : Nat) : Int) := by decide +kernel
  exact h ⟨a, ha⟩ ⟨b, hb⟩
theorem and_i64 (a b : Nat) (ha : a < 16) (hb : b < 16) : bits .and .i64 (a : Int) (b : Int) = ((a &&& b : Nat) : Int) := by
  have h : ∀ x : Fin 16, ∀ y : Fin 16, bits .and .i64 (x.val : Int) (y.val : Int) = ((x.val &&& y.val : Nat) : Int) := by decide +kernel
  exact h ⟨a, ha⟩ ⟨b, hb⟩

theorem four (m : Int) (h0 : 0 ≤ m) (h1 : m < 4) : m = 0 ∨ m = 1 ∨ m = 2 ∨ m = 3 := by omega

theorem withM_bd (s m : Int) (h0 : 0 ≤ s) (h1 : s < 16) (h2 : 0 ≤ m) (h3 : m < 4) : 0 ≤ withM s m ∧ withM s m < 16 := by
  have h : ∀ x : Fin 16, ∀ y : Fin 4, 0 ≤ withM (x.val : Int) (y.val : Int) ∧ withM (x.val : Int) (y.val : Int) < 16 := by decide +kernel
  have := h ⟨s.toNat, by omega⟩ ⟨m.toNat, by omega⟩
  simpa [Int.toNat_of_nonneg h0, Int.toNat_of_nonneg h2] using this

/-- what the statement ModesOrder asks of three modes -/
theorem order_all (x y z : Int) (hx0 : 0 ≤ x) (hx1 : x < 4) (hy0 : 0 ≤ y) (hy1 : y < 4) (hz0 : 0 ≤ z) (hz1 : z < 4) :
    compat y x = compat x y ∧ withM (withM 0 y) x = withM (withM 0 x) y ∧ hasM (withM (withM 0 x) y) x = true ∧ hasM (withM (withM 0 x) y) y = true ∧
    fitsM (withM (withM 0 x) y) z = (compat x z && compat y z) ∧ fitsM (withM 0 x) z = compat x z := by
  have h : ∀ a b c : Fin 4, (compat (b.val : Int) (a.val : Int) = compat (a.val : Int) (b.val : Int) ∧ withM (withM 0 (b.val : Int)) (a.val : Int) = withM (withM 0 (a.val : Int)) (b.val : Int) ∧ hasM (withM (withM 0 (a.val : Int)) (b.val : Int)) (a.val : Int) = true ∧ hasM (withM (withM 0 (a.val : Int)) (b.val : Int)) (b.val : Int) = true ∧
    fitsM (withM (withM 0 (a.val : Int)) (b.val : Int)) (c.val : Int) = (compat (a.val : Int) (c.val : Int) && compat (b.val : Int) (c.val : Int)) ∧ fitsM (withM 0 (a.val : Int)) (c.val : Int) = compat (a.val : Int) (c.val : Int)) := by decide +kernel
  have := h ⟨x.toNat, by omega⟩ ⟨y.toNat, by omega⟩ ⟨z.toNat, by omega⟩
  simpa only [Int.toNat_of_nonneg hx0, Int.toNat_of_nonneg hy0, Int.toNat_of_nonneg hz0] using this
end Go.Proofs.YtghgccgpgonlmaaDoor.ModesP
