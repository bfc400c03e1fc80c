/-
  NARROWER THAN 'FOR EVERY INPUT', by the rows' own cells (each row's printed sentence says how): LocksApart: laid · LocksSteps: laid · LocksEnd: laid.
  DERIVED. THE GIVEN ROWS OF THIS SEAT. 3 by the template 'for every input the law returns true; each argument reads behind the call as it read before'; 0 by the template 'total and deterministic' (their statements: YtkkfabnehhamdaaDoorTotals.lean).
  GIVEN WITH THE SEED: the statements are not yours to turn. If you find one false, say at which input.
  Laid BY PROGRAM, IN A SANDBOX (cutbox-rows.mjs): the forced cells as the released guide's own fill.sh prints them over the translation 39c6ac61fe5c6a98… (all of the seat's roots in one cut). By AI agents, Wed Nov 11 2026. No macro, syntax, notation, axiom, sorry.
-/
import Derived.Test.YtkkfabnehhamdaaDoorChecked
import GoSem.Claim
import GoSem.ClaimJoined
import GoSem.ClaimMapViews
import Derived.JoinedTies
import Derived.KernelRfl
namespace Go.Proofs.YtkkfabnehhamdaaDoor
/- THE CELL 'sum', in the pinned program and in every row, IS THE sha256 OF THE DUMP (.gsa) THAT YtkkfabnehhamdaaDoorProg.lean LOADS. Nothing in Lean hashes anything: it is a label: what it is worth is what the hold of that sum in a sandbox is worth. -/
noncomputable def Tryd.pinned : Pinned := { name := "ytkkfabnehhamdaadoor", sum := "39c6ac61fe5c6a989cb5689c4695a3b0fc8cd1166788f25574ca796766aeb2b1", checked := Tryd.checked }
namespace Rows
def none {H : Type} : Left H := { results := [], args := [] }

/- WHAT THE LISTED PACKAGE-LEVEL VARIABLES READ AS WHEN THE CALL BEGINS. Each datum BY PROGRAM (the guide's laid-datum.mjs) off the statement by which the dump's own 'gosem.cut.vars' lays the variable. In a bare row this is a premise. The card (YtkkfabnehhamdaaDoorCards.lean) ties it to the program's text. -/
def laid_moneyer_modes_together {H : Type} : DataW H := .agg [.agg [.lit (.bool true), .lit (.bool false), .lit (.bool false), .lit (.bool false)], .agg [.lit (.bool false), .lit (.bool false), .lit (.bool false), .lit (.bool false)], .agg [.lit (.bool false), .lit (.bool false), .lit (.bool true), .lit (.bool true)], .agg [.lit (.bool false), .lit (.bool false), .lit (.bool true), .lit (.bool true)]]

/-- 'moneyerlaw13.LocksApart': WHATEVER THE INPUT: true; the input reads as it did. -/
def locksApartSpec : ChangeSpec := { name := "locksApart", fn := fun _ => fun
  | [d1, d2] => { results := [.lit (.bool true)], args := [d1, d2] }
  | _ => none }
def locksApartRow : OpenClaim := { program := "ytkkfabnehhamdaadoor", sum := "39c6ac61fe5c6a989cb5689c4695a3b0fc8cd1166788f25574ca796766aeb2b1", func := "moneyer/moneyerlaw13.LocksApart", spec := "locksApart", unfollowed := true, recurses := true, named := ["moneyer/modes.together"], apart := false, laid := [("moneyer/modes.together", laid_moneyer_modes_together)] }
def LocksApartSaid : Prop := locksApartRow.holds Tryd.pinned (OpenSpec.ofChange locksApartSpec)

/-- ITS FALSE NEIGHBOUR: 'it returns false'. Refute it at one input. -/
def locksApartWrong : ChangeSpec := { name := "locksApart", fn := fun _ => fun
  | [d1, d2] => { results := [.lit (.bool false)], args := [d1, d2] }
  | _ => none }
def LocksApartWrongFalsely : Prop := locksApartRow.holds Tryd.pinned (OpenSpec.ofChange locksApartWrong)

/-- 'moneyerlaw13.LocksSteps': WHATEVER THE INPUT: true; the input reads as it did. -/
def locksStepsSpec : ChangeSpec := { name := "locksSteps", fn := fun _ => fun
  | [d1, d2, d3] => { results := [.lit (.bool true)], args := [d1, d2, d3] }
  | _ => none }
def locksStepsRow : OpenClaim := { program := "ytkkfabnehhamdaadoor", sum := "39c6ac61fe5c6a989cb5689c4695a3b0fc8cd1166788f25574ca796766aeb2b1", func := "moneyer/moneyerlaw13.LocksSteps", spec := "locksSteps", unfollowed := true, recurses := true, named := ["moneyer/modes.together"], apart := false, laid := [("moneyer/modes.together", laid_moneyer_modes_together)] }
def LocksStepsSaid : Prop := locksStepsRow.holds Tryd.pinned (OpenSpec.ofChange locksStepsSpec)

/-- ITS FALSE NEIGHBOUR: 'it returns false'. Refute it at one input. -/
def locksStepsWrong : ChangeSpec := { name := "locksSteps", fn := fun _ => fun
  | [d1, d2, d3] => { results := [.lit (.bool false)], args := [d1, d2, d3] }
  | _ => none }
def LocksStepsWrongFalsely : Prop := locksStepsRow.holds Tryd.pinned (OpenSpec.ofChange locksStepsWrong)

/-- 'moneyerlaw13.LocksEnd': WHATEVER THE INPUT: true; the input reads as it did. -/
def locksEndSpec : ChangeSpec := { name := "locksEnd", fn := fun _ => fun
  | [d1, d2] => { results := [.lit (.bool true)], args := [d1, d2] }
  | _ => none }
def locksEndRow : OpenClaim := { program := "ytkkfabnehhamdaadoor", sum := "39c6ac61fe5c6a989cb5689c4695a3b0fc8cd1166788f25574ca796766aeb2b1", func := "moneyer/moneyerlaw13.LocksEnd", spec := "locksEnd", unfollowed := true, recurses := true, named := ["moneyer/modes.together"], apart := false, laid := [("moneyer/modes.together", laid_moneyer_modes_together)] }
def LocksEndSaid : Prop := locksEndRow.holds Tryd.pinned (OpenSpec.ofChange locksEndSpec)

/-- ITS FALSE NEIGHBOUR: 'it returns false'. Refute it at one input. -/
def locksEndWrong : ChangeSpec := { name := "locksEnd", fn := fun _ => fun
  | [d1, d2] => { results := [.lit (.bool false)], args := [d1, d2] }
  | _ => none }
def LocksEndWrongFalsely : Prop := locksEndRow.holds Tryd.pinned (OpenSpec.ofChange locksEndWrong)

/- THE SECOND FORM. 'bulk': how many values and letters a reading holds, each counted each time it is reached (what is shared counts as often as it is met; a slice's spare places count too). A statement '..UptoSaid' is the law's where the arguments, and the package variables that the reading takes, are together of bulk at most 1048576: NARROWER than '..Said'. Prove '..Said' where nothing that the law and all that it calls make is longer than what came in: it says more and counts as full. Else prove '..UptoSaid'. A law counts once. -/
mutual
def uptoBulk {H : Type} : DataW H → Nat
  | .lit (.string bytes) => bytes.length + 1
  | .lit _ => 1
  | .nil => 1
  | .ptr d => uptoBulk d + 1
  | .slice elems spare => uptoBulkAll elems + uptoBulkAll spare + 1
  | .agg parts => uptoBulkAll parts + 1
  | .iface _ d => uptoBulk d + 1
  | .map entries => uptoBulkEntries entries + 1
  | .held _ => 1
def uptoBulkAll {H : Type} : List (DataW H) → Nat
  | [] => 0
  | d :: r => uptoBulk d + uptoBulkAll r
def uptoBulkEntries {H : Type} : List (Lit × DataW H) → Nat
  | [] => 0
  | x :: r => uptoBulkEntry x + uptoBulkEntries r
def uptoBulkEntry {H : Type} : Lit × DataW H → Nat
  | (.string bytes, d) => bytes.length + uptoBulk d + 1
  | (_, d) => uptoBulk d + 1
 end
def uptoSmall : (H : Type) → List (DataW H) → Bool := fun _ ds => decide (uptoBulkAll ds ≤ 1048576)
def OpenSpec.upto (s : _root_.Go.ChangeSpec) : _root_.Go.OpenSpec := { _root_.Go.OpenSpec.ofChange s with cond := some uptoSmall }

/-- 'moneyerlaw13.LocksApart', WHERE WHAT IT READS IS OF BULK AT MOST 1048576: true; the input reads as it did. -/
def locksApartUptoRow : OpenClaim := { program := "ytkkfabnehhamdaadoor", sum := "39c6ac61fe5c6a989cb5689c4695a3b0fc8cd1166788f25574ca796766aeb2b1", func := "moneyer/moneyerlaw13.LocksApart", spec := "locksApart", unfollowed := true, recurses := true, named := ["moneyer/modes.together"], apart := false, laid := [("moneyer/modes.together", laid_moneyer_modes_together)], narrowed := true }
def LocksApartUptoSaid : Prop := locksApartUptoRow.holds Tryd.pinned (OpenSpec.upto locksApartSpec)

/-- 'moneyerlaw13.LocksSteps', WHERE WHAT IT READS IS OF BULK AT MOST 1048576: true; the input reads as it did. -/
def locksStepsUptoRow : OpenClaim := { program := "ytkkfabnehhamdaadoor", sum := "39c6ac61fe5c6a989cb5689c4695a3b0fc8cd1166788f25574ca796766aeb2b1", func := "moneyer/moneyerlaw13.LocksSteps", spec := "locksSteps", unfollowed := true, recurses := true, named := ["moneyer/modes.together"], apart := false, laid := [("moneyer/modes.together", laid_moneyer_modes_together)], narrowed := true }
def LocksStepsUptoSaid : Prop := locksStepsUptoRow.holds Tryd.pinned (OpenSpec.upto locksStepsSpec)

/-- 'moneyerlaw13.LocksEnd', WHERE WHAT IT READS IS OF BULK AT MOST 1048576: true; the input reads as it did. -/
def locksEndUptoRow : OpenClaim := { program := "ytkkfabnehhamdaadoor", sum := "39c6ac61fe5c6a989cb5689c4695a3b0fc8cd1166788f25574ca796766aeb2b1", func := "moneyer/moneyerlaw13.LocksEnd", spec := "locksEnd", unfollowed := true, recurses := true, named := ["moneyer/modes.together"], apart := false, laid := [("moneyer/modes.together", laid_moneyer_modes_together)], narrowed := true }
def LocksEndUptoSaid : Prop := locksEndUptoRow.holds Tryd.pinned (OpenSpec.upto locksEndSpec)

end Rows
end Go.Proofs.YtkkfabnehhamdaaDoor
