/-
  No cell of these rows narrows 'for every input' (looked for: loops, veiled, ifaces, maps, wideKeys, modest, calm, conditions, laid).
  DERIVED. THE GIVEN ROWS OF THIS SEAT. 9 by the template 'for every input the law returns true; each argument reads behind the call as it read before'; 0 by the template 'total and deterministic' (their statements: YtghgccgpgonlmaaTotals.lean).
  GIVEN WITH THE SEED: the statements are not yours to turn. If you find one false, say at which input.
  Laid BY PROGRAM, IN A SANDBOX (cutbox-rows.mjs): the forced cells as the released guide's own fill.sh prints them over the translation 8a0ee29966c93369… (all of the seat's roots in one cut). By AI agents, Wed Nov 11 2026. No macro, syntax, notation, axiom, sorry.
-/
import Derived.Test.YtghgccgpgonlmaaChecked
import GoSem.Claim
import GoSem.ClaimJoined
import GoSem.ClaimMapViews
import Derived.JoinedTies
import Derived.KernelRfl
namespace Go.Proofs.Ytghgccgpgonlmaa
/- THE CELL 'sum', in the pinned program and in every row, IS THE sha256 OF THE DUMP (.gsa) THAT YtghgccgpgonlmaaProg.lean LOADS. Nothing in Lean hashes anything: it is a label: what it is worth is what the hold of that sum in a sandbox is worth. -/
noncomputable def Try.pinned : Pinned := { name := "ytghgccgpgonlmaa", sum := "8a0ee29966c9336942c05e33976ac865a089cfdf5dc01a10c426522525c1bc0c", checked := Try.checked }
namespace Rows
def none {H : Type} : Left H := { results := [], args := [] }

/-- 'moneyerlaw09.ModelChecks': WHATEVER THE INPUT: true; the input reads as it did. -/
def modelChecksSpec : ChangeSpec := { name := "modelChecks", fn := fun _ => fun
  | [d] => { results := [.lit (.bool true)], args := [d] }
  | _ => none }
def modelChecksRow : OpenClaim := { program := "ytghgccgpgonlmaa", sum := "8a0ee29966c9336942c05e33976ac865a089cfdf5dc01a10c426522525c1bc0c", func := "moneyer/moneyerlaw09.ModelChecks", spec := "modelChecks", inPlace := ["internal/bytealg.abigen_runtime_cmpstring", "math/bits.Add64", "math/bits.Sub64", "slices.overlaps[moneyer/api.Pair]"], unfollowed := true, recurses := true, apart := false }
def ModelChecksSaid : Prop := modelChecksRow.holds Try.pinned (OpenSpec.ofChange modelChecksSpec)

/-- ITS FALSE NEIGHBOUR: 'it returns false'. Refute it at one input. -/
def modelChecksWrong : ChangeSpec := { name := "modelChecks", fn := fun _ => fun
  | [d] => { results := [.lit (.bool false)], args := [d] }
  | _ => none }
def ModelChecksWrongFalsely : Prop := modelChecksRow.holds Try.pinned (OpenSpec.ofChange modelChecksWrong)

/-- 'moneyerlaw09.ModelPlains': WHATEVER THE INPUT: true; the input reads as it did. -/
def modelPlainsSpec : ChangeSpec := { name := "modelPlains", fn := fun _ => fun
  | [d1, d2] => { results := [.lit (.bool true)], args := [d1, d2] }
  | _ => none }
def modelPlainsRow : OpenClaim := { program := "ytghgccgpgonlmaa", sum := "8a0ee29966c9336942c05e33976ac865a089cfdf5dc01a10c426522525c1bc0c", func := "moneyer/moneyerlaw09.ModelPlains", spec := "modelPlains", inPlace := ["internal/bytealg.abigen_runtime_cmpstring", "math/bits.Add64", "math/bits.Sub64", "slices.overlaps[moneyer/api.Pair]"], unfollowed := true, recurses := true, apart := false }
def ModelPlainsSaid : Prop := modelPlainsRow.holds Try.pinned (OpenSpec.ofChange modelPlainsSpec)

/-- ITS FALSE NEIGHBOUR: 'it returns false'. Refute it at one input. -/
def modelPlainsWrong : ChangeSpec := { name := "modelPlains", fn := fun _ => fun
  | [d1, d2] => { results := [.lit (.bool false)], args := [d1, d2] }
  | _ => none }
def ModelPlainsWrongFalsely : Prop := modelPlainsRow.holds Try.pinned (OpenSpec.ofChange modelPlainsWrong)

/-- 'moneyerlaw09.ModelSteps': WHATEVER THE INPUT: true; the input reads as it did. -/
def modelStepsSpec : ChangeSpec := { name := "modelSteps", fn := fun _ => fun
  | [d1, d2] => { results := [.lit (.bool true)], args := [d1, d2] }
  | _ => none }
def modelStepsRow : OpenClaim := { program := "ytghgccgpgonlmaa", sum := "8a0ee29966c9336942c05e33976ac865a089cfdf5dc01a10c426522525c1bc0c", func := "moneyer/moneyerlaw09.ModelSteps", spec := "modelSteps", inPlace := ["internal/bytealg.abigen_runtime_cmpstring", "math/bits.Add64", "math/bits.Sub64", "slices.overlaps[moneyer/api.Pair]"], unfollowed := true, recurses := true, apart := false }
def ModelStepsSaid : Prop := modelStepsRow.holds Try.pinned (OpenSpec.ofChange modelStepsSpec)

/-- ITS FALSE NEIGHBOUR: 'it returns false'. Refute it at one input. -/
def modelStepsWrong : ChangeSpec := { name := "modelSteps", fn := fun _ => fun
  | [d1, d2] => { results := [.lit (.bool false)], args := [d1, d2] }
  | _ => none }
def ModelStepsWrongFalsely : Prop := modelStepsRow.holds Try.pinned (OpenSpec.ofChange modelStepsWrong)

/-- 'moneyerlaw09.ModelLooks': WHATEVER THE INPUT: true; the input reads as it did. -/
def modelLooksSpec : ChangeSpec := { name := "modelLooks", fn := fun _ => fun
  | [d1, d2, d3, d4, d5] => { results := [.lit (.bool true)], args := [d1, d2, d3, d4, d5] }
  | _ => none }
def modelLooksRow : OpenClaim := { program := "ytghgccgpgonlmaa", sum := "8a0ee29966c9336942c05e33976ac865a089cfdf5dc01a10c426522525c1bc0c", func := "moneyer/moneyerlaw09.ModelLooks", spec := "modelLooks", inPlace := ["internal/bytealg.abigen_runtime_cmpstring", "math/bits.Add64", "math/bits.Sub64", "slices.overlaps[moneyer/api.Pair]"], unfollowed := true, recurses := true, apart := false }
def ModelLooksSaid : Prop := modelLooksRow.holds Try.pinned (OpenSpec.ofChange modelLooksSpec)

/-- ITS FALSE NEIGHBOUR: 'it returns false'. Refute it at one input. -/
def modelLooksWrong : ChangeSpec := { name := "modelLooks", fn := fun _ => fun
  | [d1, d2, d3, d4, d5] => { results := [.lit (.bool false)], args := [d1, d2, d3, d4, d5] }
  | _ => none }
def ModelLooksWrongFalsely : Prop := modelLooksRow.holds Try.pinned (OpenSpec.ofChange modelLooksWrong)

/-- 'moneyerlaw23.PlanSlots': WHATEVER THE INPUT: true; the input reads as it did. -/
def planSlotsSpec : ChangeSpec := { name := "planSlots", fn := fun _ => fun
  | [d1, d2] => { results := [.lit (.bool true)], args := [d1, d2] }
  | _ => none }
def planSlotsRow : OpenClaim := { program := "ytghgccgpgonlmaa", sum := "8a0ee29966c9336942c05e33976ac865a089cfdf5dc01a10c426522525c1bc0c", func := "moneyer/moneyerlaw23.PlanSlots", spec := "planSlots", inPlace := ["internal/bytealg.abigen_runtime_cmpstring", "math/bits.Add64", "math/bits.Sub64", "slices.overlaps[moneyer/api.Pair]"], unfollowed := true, recurses := true, apart := false }
def PlanSlotsSaid : Prop := planSlotsRow.holds Try.pinned (OpenSpec.ofChange planSlotsSpec)

/-- ITS FALSE NEIGHBOUR: 'it returns false'. Refute it at one input. -/
def planSlotsWrong : ChangeSpec := { name := "planSlots", fn := fun _ => fun
  | [d1, d2] => { results := [.lit (.bool false)], args := [d1, d2] }
  | _ => none }
def PlanSlotsWrongFalsely : Prop := planSlotsRow.holds Try.pinned (OpenSpec.ofChange planSlotsWrong)

/-- 'moneyerlaw23.PlanBack': WHATEVER THE INPUT: true; the input reads as it did. -/
def planBackSpec : ChangeSpec := { name := "planBack", fn := fun _ => fun
  | [d1, d2] => { results := [.lit (.bool true)], args := [d1, d2] }
  | _ => none }
def planBackRow : OpenClaim := { program := "ytghgccgpgonlmaa", sum := "8a0ee29966c9336942c05e33976ac865a089cfdf5dc01a10c426522525c1bc0c", func := "moneyer/moneyerlaw23.PlanBack", spec := "planBack", inPlace := ["internal/bytealg.abigen_runtime_cmpstring", "math/bits.Add64", "math/bits.Sub64", "slices.overlaps[moneyer/api.Pair]"], unfollowed := true, recurses := true, apart := false }
def PlanBackSaid : Prop := planBackRow.holds Try.pinned (OpenSpec.ofChange planBackSpec)

/-- ITS FALSE NEIGHBOUR: 'it returns false'. Refute it at one input. -/
def planBackWrong : ChangeSpec := { name := "planBack", fn := fun _ => fun
  | [d1, d2] => { results := [.lit (.bool false)], args := [d1, d2] }
  | _ => none }
def PlanBackWrongFalsely : Prop := planBackRow.holds Try.pinned (OpenSpec.ofChange planBackWrong)

/-- 'moneyerlaw24.TxnsOldest': WHATEVER THE INPUT: true; the input reads as it did. -/
def txnsOldestSpec : ChangeSpec := { name := "txnsOldest", fn := fun _ => fun
  | [d1, d2, d3] => { results := [.lit (.bool true)], args := [d1, d2, d3] }
  | _ => none }
def txnsOldestRow : OpenClaim := { program := "ytghgccgpgonlmaa", sum := "8a0ee29966c9336942c05e33976ac865a089cfdf5dc01a10c426522525c1bc0c", func := "moneyer/moneyerlaw24.TxnsOldest", spec := "txnsOldest", recurses := true, apart := false }
def TxnsOldestSaid : Prop := txnsOldestRow.holds Try.pinned (OpenSpec.ofChange txnsOldestSpec)

/-- ITS FALSE NEIGHBOUR: 'it returns false'. Refute it at one input. -/
def txnsOldestWrong : ChangeSpec := { name := "txnsOldest", fn := fun _ => fun
  | [d1, d2, d3] => { results := [.lit (.bool false)], args := [d1, d2, d3] }
  | _ => none }
def TxnsOldestWrongFalsely : Prop := txnsOldestRow.holds Try.pinned (OpenSpec.ofChange txnsOldestWrong)

/-- 'moneyerlaw24.TxnsSteps': WHATEVER THE INPUT: true; the input reads as it did. -/
def txnsStepsSpec : ChangeSpec := { name := "txnsSteps", fn := fun _ => fun
  | [d1, d2] => { results := [.lit (.bool true)], args := [d1, d2] }
  | _ => none }
def txnsStepsRow : OpenClaim := { program := "ytghgccgpgonlmaa", sum := "8a0ee29966c9336942c05e33976ac865a089cfdf5dc01a10c426522525c1bc0c", func := "moneyer/moneyerlaw24.TxnsSteps", spec := "txnsSteps", recurses := true, apart := false }
def TxnsStepsSaid : Prop := txnsStepsRow.holds Try.pinned (OpenSpec.ofChange txnsStepsSpec)

/-- ITS FALSE NEIGHBOUR: 'it returns false'. Refute it at one input. -/
def txnsStepsWrong : ChangeSpec := { name := "txnsSteps", fn := fun _ => fun
  | [d1, d2] => { results := [.lit (.bool false)], args := [d1, d2] }
  | _ => none }
def TxnsStepsWrongFalsely : Prop := txnsStepsRow.holds Try.pinned (OpenSpec.ofChange txnsStepsWrong)

/-- 'moneyerlaw24.TxnsOnce': WHATEVER THE INPUT: true; the input reads as it did. -/
def txnsOnceSpec : ChangeSpec := { name := "txnsOnce", fn := fun _ => fun
  | [d1, d2] => { results := [.lit (.bool true)], args := [d1, d2] }
  | _ => none }
def txnsOnceRow : OpenClaim := { program := "ytghgccgpgonlmaa", sum := "8a0ee29966c9336942c05e33976ac865a089cfdf5dc01a10c426522525c1bc0c", func := "moneyer/moneyerlaw24.TxnsOnce", spec := "txnsOnce", recurses := true, apart := false }
def TxnsOnceSaid : Prop := txnsOnceRow.holds Try.pinned (OpenSpec.ofChange txnsOnceSpec)

/-- ITS FALSE NEIGHBOUR: 'it returns false'. Refute it at one input. -/
def txnsOnceWrong : ChangeSpec := { name := "txnsOnce", fn := fun _ => fun
  | [d1, d2] => { results := [.lit (.bool false)], args := [d1, d2] }
  | _ => none }
def TxnsOnceWrongFalsely : Prop := txnsOnceRow.holds Try.pinned (OpenSpec.ofChange txnsOnceWrong)

/- THE SECOND FORM. 'bulk': how many values and letters a reading holds, each counted each time it is reached (what is shared counts as often as it is met; a slice's spare places count too). A statement '..UptoSaid' is the law's where the arguments, and the package variables that the reading takes, are together of bulk at most 1048576: NARROWER than '..Said'. Prove '..Said' where nothing that the law and all that it calls make is longer than what came in: it says more and counts as full. Else prove '..UptoSaid'. A law counts once. -/
mutual
def uptoBulk {H : Type} : DataW H → Nat
  | .lit (.string bytes) => bytes.length + 1
  | .lit _ => 1
  | .nil => 1
  | .ptr d => uptoBulk d + 1
  | .slice elems spare => uptoBulkAll elems + uptoBulkAll spare + 1
  | .agg parts => uptoBulkAll parts + 1
  | .iface _ d => uptoBulk d + 1
  | .map entries => uptoBulkEntries entries + 1
  | .held _ => 1
def uptoBulkAll {H : Type} : List (DataW H) → Nat
  | [] => 0
  | d :: r => uptoBulk d + uptoBulkAll r
def uptoBulkEntries {H : Type} : List (Lit × DataW H) → Nat
  | [] => 0
  | x :: r => uptoBulkEntry x + uptoBulkEntries r
def uptoBulkEntry {H : Type} : Lit × DataW H → Nat
  | (.string bytes, d) => bytes.length + uptoBulk d + 1
  | (_, d) => uptoBulk d + 1
 end
def uptoSmall : (H : Type) → List (DataW H) → Bool := fun _ ds => decide (uptoBulkAll ds ≤ 1048576)
def OpenSpec.upto (s : _root_.Go.ChangeSpec) : _root_.Go.OpenSpec := { _root_.Go.OpenSpec.ofChange s with cond := some uptoSmall }

/-- 'moneyerlaw09.ModelChecks', WHERE WHAT IT READS IS OF BULK AT MOST 1048576: true; the input reads as it did. -/
def modelChecksUptoRow : OpenClaim := { program := "ytghgccgpgonlmaa", sum := "8a0ee29966c9336942c05e33976ac865a089cfdf5dc01a10c426522525c1bc0c", func := "moneyer/moneyerlaw09.ModelChecks", spec := "modelChecks", inPlace := ["internal/bytealg.abigen_runtime_cmpstring", "math/bits.Add64", "math/bits.Sub64", "slices.overlaps[moneyer/api.Pair]"], unfollowed := true, recurses := true, apart := false, narrowed := true }
def ModelChecksUptoSaid : Prop := modelChecksUptoRow.holds Try.pinned (OpenSpec.upto modelChecksSpec)

/-- 'moneyerlaw09.ModelPlains', WHERE WHAT IT READS IS OF BULK AT MOST 1048576: true; the input reads as it did. -/
def modelPlainsUptoRow : OpenClaim := { program := "ytghgccgpgonlmaa", sum := "8a0ee29966c9336942c05e33976ac865a089cfdf5dc01a10c426522525c1bc0c", func := "moneyer/moneyerlaw09.ModelPlains", spec := "modelPlains", inPlace := ["internal/bytealg.abigen_runtime_cmpstring", "math/bits.Add64", "math/bits.Sub64", "slices.overlaps[moneyer/api.Pair]"], unfollowed := true, recurses := true, apart := false, narrowed := true }
def ModelPlainsUptoSaid : Prop := modelPlainsUptoRow.holds Try.pinned (OpenSpec.upto modelPlainsSpec)

/-- 'moneyerlaw09.ModelSteps', WHERE WHAT IT READS IS OF BULK AT MOST 1048576: true; the input reads as it did. -/
def modelStepsUptoRow : OpenClaim := { program := "ytghgccgpgonlmaa", sum := "8a0ee29966c9336942c05e33976ac865a089cfdf5dc01a10c426522525c1bc0c", func := "moneyer/moneyerlaw09.ModelSteps", spec := "modelSteps", inPlace := ["internal/bytealg.abigen_runtime_cmpstring", "math/bits.Add64", "math/bits.Sub64", "slices.overlaps[moneyer/api.Pair]"], unfollowed := true, recurses := true, apart := false, narrowed := true }
def ModelStepsUptoSaid : Prop := modelStepsUptoRow.holds Try.pinned (OpenSpec.upto modelStepsSpec)

/-- 'moneyerlaw09.ModelLooks', WHERE WHAT IT READS IS OF BULK AT MOST 1048576: true; the input reads as it did. -/
def modelLooksUptoRow : OpenClaim := { program := "ytghgccgpgonlmaa", sum := "8a0ee29966c9336942c05e33976ac865a089cfdf5dc01a10c426522525c1bc0c", func := "moneyer/moneyerlaw09.ModelLooks", spec := "modelLooks", inPlace := ["internal/bytealg.abigen_runtime_cmpstring", "math/bits.Add64", "math/bits.Sub64", "slices.overlaps[moneyer/api.Pair]"], unfollowed := true, recurses := true, apart := false, narrowed := true }
def ModelLooksUptoSaid : Prop := modelLooksUptoRow.holds Try.pinned (OpenSpec.upto modelLooksSpec)

/-- 'moneyerlaw23.PlanSlots', WHERE WHAT IT READS IS OF BULK AT MOST 1048576: true; the input reads as it did. -/
def planSlotsUptoRow : OpenClaim := { program := "ytghgccgpgonlmaa", sum := "8a0ee29966c9336942c05e33976ac865a089cfdf5dc01a10c426522525c1bc0c", func := "moneyer/moneyerlaw23.PlanSlots", spec := "planSlots", inPlace := ["internal/bytealg.abigen_runtime_cmpstring", "math/bits.Add64", "math/bits.Sub64", "slices.overlaps[moneyer/api.Pair]"], unfollowed := true, recurses := true, apart := false, narrowed := true }
def PlanSlotsUptoSaid : Prop := planSlotsUptoRow.holds Try.pinned (OpenSpec.upto planSlotsSpec)

/-- 'moneyerlaw23.PlanBack', WHERE WHAT IT READS IS OF BULK AT MOST 1048576: true; the input reads as it did. -/
def planBackUptoRow : OpenClaim := { program := "ytghgccgpgonlmaa", sum := "8a0ee29966c9336942c05e33976ac865a089cfdf5dc01a10c426522525c1bc0c", func := "moneyer/moneyerlaw23.PlanBack", spec := "planBack", inPlace := ["internal/bytealg.abigen_runtime_cmpstring", "math/bits.Add64", "math/bits.Sub64", "slices.overlaps[moneyer/api.Pair]"], unfollowed := true, recurses := true, apart := false, narrowed := true }
def PlanBackUptoSaid : Prop := planBackUptoRow.holds Try.pinned (OpenSpec.upto planBackSpec)

/-- 'moneyerlaw24.TxnsOldest', WHERE WHAT IT READS IS OF BULK AT MOST 1048576: true; the input reads as it did. -/
def txnsOldestUptoRow : OpenClaim := { program := "ytghgccgpgonlmaa", sum := "8a0ee29966c9336942c05e33976ac865a089cfdf5dc01a10c426522525c1bc0c", func := "moneyer/moneyerlaw24.TxnsOldest", spec := "txnsOldest", recurses := true, apart := false, narrowed := true }
def TxnsOldestUptoSaid : Prop := txnsOldestUptoRow.holds Try.pinned (OpenSpec.upto txnsOldestSpec)

/-- 'moneyerlaw24.TxnsSteps', WHERE WHAT IT READS IS OF BULK AT MOST 1048576: true; the input reads as it did. -/
def txnsStepsUptoRow : OpenClaim := { program := "ytghgccgpgonlmaa", sum := "8a0ee29966c9336942c05e33976ac865a089cfdf5dc01a10c426522525c1bc0c", func := "moneyer/moneyerlaw24.TxnsSteps", spec := "txnsSteps", recurses := true, apart := false, narrowed := true }
def TxnsStepsUptoSaid : Prop := txnsStepsUptoRow.holds Try.pinned (OpenSpec.upto txnsStepsSpec)

/-- 'moneyerlaw24.TxnsOnce', WHERE WHAT IT READS IS OF BULK AT MOST 1048576: true; the input reads as it did. -/
def txnsOnceUptoRow : OpenClaim := { program := "ytghgccgpgonlmaa", sum := "8a0ee29966c9336942c05e33976ac865a089cfdf5dc01a10c426522525c1bc0c", func := "moneyer/moneyerlaw24.TxnsOnce", spec := "txnsOnce", recurses := true, apart := false, narrowed := true }
def TxnsOnceUptoSaid : Prop := txnsOnceUptoRow.holds Try.pinned (OpenSpec.upto txnsOnceSpec)

end Rows
end Go.Proofs.Ytghgccgpgonlmaa
