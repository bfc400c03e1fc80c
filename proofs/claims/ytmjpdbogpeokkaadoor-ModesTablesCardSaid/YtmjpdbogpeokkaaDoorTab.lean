/-
  The table of package modes: what the row lists of it gives the walks.
-/
import Derived.Test.YtmjpdbogpeokkaaDoorRows
import Derived.Test.YtmjpdbogpeokkaaDoorModes
import Derived.OpenShut
import Derived.LaidLaws
import Derived.ChangeArms
namespace Go.Proofs.YtmjpdbogpeokkaaDoor.Tab
open Go.RowKit

section
variable {H : Type} {enc : TypeId × Value → H} {P : Program} {w : World} {base : Nat} {sp : Nat → Bool} {held : Bool}
/-- an array of bools, read -/
theorem row_bools {fuel n : Nat} {t e : TypeId} {cs : List Value} {r : List Bool} {p : List MemPlace} (ht : P.underlying t = some (.array n e)) (he : P.underlying e = some .bool) (hce : P.cellsOf e = 1)
    (h : DataW.trod enc P w base sp held fuel t cs = some (.agg (r.map fun b => .lit (.bool b)), p)) (j : Nat) (hj : j < n) (b : Bool) (hb : r[j]? = some b) : cs[j]? = some (.bool b) := by
  obtain ⟨xs, m, _, hx, _, hl, hi⟩ := DataW.trod_array ht h
  have hj' := hi j hj
  have hxj : xs[j]? = some (xs[j]'(by omega)) := List.getElem?_eq_getElem (by omega)
  rw [hxj, hce] at hj'
  obtain ⟨b', hc, hx'⟩ := DataW.trod_bool he hj'
  have h1 : xs.map (·.1) = r.map fun b => (DataW.lit (.bool b) : DataW H) := by
    have := congrArg Prod.fst hx
    simpa using this.symm
  have h2 := congrArg (·[j]?) h1
  simp only [List.getElem?_map, hxj, hb, Option.map_some, Option.some.injEq, hx'] at h2
  have h3 : b' = b := by simpa using h2
  subst h3
  have := congrArg (·[0]?) hc
  simpa [List.getElem?_take, List.getElem?_drop] using this
/-- an array of arrays of bools, read -/
theorem rows_bools {fuel n k : Nat} {t t1 e : TypeId} {cs : List Value} {rs : List (List Bool)} {p : List MemPlace} (ht : P.underlying t = some (.array n t1)) (ht1 : P.underlying t1 = some (.array k e)) (he : P.underlying e = some .bool) (hce : P.cellsOf e = 1) (hc1 : P.cellsOf t1 = k)
    (h : DataW.trod enc P w base sp held fuel t cs = some (.agg (rs.map fun r => .agg (r.map fun b => .lit (.bool b))), p)) (i j : Nat) (hi : i < n) (hj : j < k) (r : List Bool) (b : Bool) (hr : rs[i]? = some r) (hb : r[j]? = some b) :
    cs[i * k + j]? = some (.bool b) := by
  obtain ⟨xs, m, _, hx, _, hl, hrow⟩ := DataW.trod_array ht h
  have hi' := hrow i hi
  have hxi : xs[i]? = some (xs[i]'(by omega)) := List.getElem?_eq_getElem (by omega)
  rw [hxi, hc1] at hi'
  have h1 : xs.map (·.1) = rs.map fun r => (DataW.agg (r.map fun b => .lit (.bool b)) : DataW H) := by
    have := congrArg Prod.fst hx
    simpa using this.symm
  have h2 := congrArg (·[i]?) h1
  simp only [List.getElem?_map, hxi, hr, Option.map_some, Option.some.injEq] at h2
  have h3 : xs[i]'(by omega) = (.agg (r.map fun b => .lit (.bool b)), (xs[i]'(by omega)).2) := by rw [← h2]
  rw [h3] at hi'
  have := row_bools ht1 he hce hi' j hj b hb
  rw [List.getElem?_take, if_pos hj, List.getElem?_drop] at this
  exact this
end

theorem gTab : Tryd.prog.globalNamed "moneyer/modes.together" = some 0 := by kernel_rfl
theorem gTabType : (Tryd.prog.globals[0]?).map (·.type) = some 35 := by kernel_rfl
theorem cellsRow : Tryd.prog.cellsOf 34 = 4 := by kernel_rfl
theorem cellsBool : Tryd.prog.cellsOf 4 = 1 := by kernel_rfl
def rows : List (List Bool) := [[true, false, false, false], [false, false, false, false], [false, false, true, true], [false, false, true, true]]

/-- what the row lists gives the walks -/
theorem tab_of {W : World} {rest : List (String × DataW Unit)} (h : laidMet Tryd.prog (("moneyer/modes.together", Rows.laid_moneyer_modes_together) :: rest) W) : Modes.Tab W := by
  obtain ⟨ps, ⟨g', t', cs, fuel, p, q, hg', ht', hvar, hd, _, _⟩, _⟩ := h
  obtain rfl := Option.some.inj (gTab.symm.trans hg')
  obtain rfl := Option.some.inj (gTabType.symm.trans ht')
  intro a b ha hb
  rw [World.var?_cell gTab hvar]
  have hr : ∀ a' b' : Fin 4, ∃ r, rows[a'.val]? = some r ∧ r[b'.val]? = some (ModesP.compat (a'.val : Int) (b'.val : Int)) := by
    intro a' b'
    match a', b' with
    | 0, 0 => exact ⟨_, rfl, rfl⟩
    | 0, 1 => exact ⟨_, rfl, rfl⟩
    | 0, 2 => exact ⟨_, rfl, rfl⟩
    | 0, 3 => exact ⟨_, rfl, rfl⟩
    | 1, 0 => exact ⟨_, rfl, rfl⟩
    | 1, 1 => exact ⟨_, rfl, rfl⟩
    | 1, 2 => exact ⟨_, rfl, rfl⟩
    | 1, 3 => exact ⟨_, rfl, rfl⟩
    | 2, 0 => exact ⟨_, rfl, rfl⟩
    | 2, 1 => exact ⟨_, rfl, rfl⟩
    | 2, 2 => exact ⟨_, rfl, rfl⟩
    | 2, 3 => exact ⟨_, rfl, rfl⟩
    | 3, 0 => exact ⟨_, rfl, rfl⟩
    | 3, 1 => exact ⟨_, rfl, rfl⟩
    | 3, 2 => exact ⟨_, rfl, rfl⟩
    | 3, 3 => exact ⟨_, rfl, rfl⟩
  obtain ⟨r, hr1, hr2⟩ := hr ⟨a, ha⟩ ⟨b, hb⟩
  have := rows_bools (rs := rows) Tryd.underlying35 Tryd.underlying34 Tryd.underlying4 cellsBool cellsRow hd a b ha hb r _ hr1 hr2
  simpa using this
end Go.Proofs.YtmjpdbogpeokkaaDoor.Tab
