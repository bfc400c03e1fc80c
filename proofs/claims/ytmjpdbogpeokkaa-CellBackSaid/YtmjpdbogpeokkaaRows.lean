/-
  No cell of these rows narrows 'for every input' (looked for: loops, veiled, ifaces, maps, wideKeys, modest, calm, conditions, laid).
  DERIVED. THE GIVEN ROWS OF THIS SEAT. 4 by the template 'for every input the law returns true; each argument reads behind the call as it read before'; 0 by the template 'total and deterministic' (their statements: YtmjpdbogpeokkaaTotals.lean).
  GIVEN WITH THE SEED: the statements are not yours to turn. If you find one false, say at which input.
  Laid BY PROGRAM, IN A SANDBOX (cutbox-rows.mjs): the forced cells as the released guide's own fill.sh prints them over the translation 861ee19d50b9a13b… (all of the seat's roots in one cut). By AI agents, Wed Nov 11 2026. No macro, syntax, notation, axiom, sorry.
-/
import Derived.Test.YtmjpdbogpeokkaaChecked
import GoSem.Claim
import GoSem.ClaimJoined
import GoSem.ClaimMapViews
import Derived.JoinedTies
import Derived.KernelRfl
namespace Go.Proofs.Ytmjpdbogpeokkaa
/- THE CELL 'sum', in the pinned program and in every row, IS THE sha256 OF THE DUMP (.gsa) THAT YtmjpdbogpeokkaaProg.lean LOADS. Nothing in Lean hashes anything: it is a label: what it is worth is what the hold of that sum in a sandbox is worth. -/
noncomputable def Try.pinned : Pinned := { name := "ytmjpdbogpeokkaa", sum := "861ee19d50b9a13b920e436ae3bb8187673636fd6c645bced35b88d7efd2ebd1", checked := Try.checked }
namespace Rows
def none {H : Type} : Left H := { results := [], args := [] }

/-- 'moneyerlaw04.KeyChecks': WHATEVER THE INPUT: true; the input reads as it did. -/
def keyChecksSpec : ChangeSpec := { name := "keyChecks", fn := fun _ => fun
  | [d1, d2] => { results := [.lit (.bool true)], args := [d1, d2] }
  | _ => none }
def keyChecksRow : OpenClaim := { program := "ytmjpdbogpeokkaa", sum := "861ee19d50b9a13b920e436ae3bb8187673636fd6c645bced35b88d7efd2ebd1", func := "moneyer/moneyerlaw04.KeyChecks", spec := "keyChecks", apart := false }
def KeyChecksSaid : Prop := keyChecksRow.holds Try.pinned (OpenSpec.ofChange keyChecksSpec)

/-- ITS FALSE NEIGHBOUR: 'it returns false'. Refute it at one input. -/
def keyChecksWrong : ChangeSpec := { name := "keyChecks", fn := fun _ => fun
  | [d1, d2] => { results := [.lit (.bool false)], args := [d1, d2] }
  | _ => none }
def KeyChecksWrongFalsely : Prop := keyChecksRow.holds Try.pinned (OpenSpec.ofChange keyChecksWrong)

/-- 'moneyerlaw04.KeyHashes': WHATEVER THE INPUT: true; the input reads as it did. -/
def keyHashesSpec : ChangeSpec := { name := "keyHashes", fn := fun _ => fun
  | [d1, d2, d3] => { results := [.lit (.bool true)], args := [d1, d2, d3] }
  | _ => none }
def keyHashesRow : OpenClaim := { program := "ytmjpdbogpeokkaa", sum := "861ee19d50b9a13b920e436ae3bb8187673636fd6c645bced35b88d7efd2ebd1", func := "moneyer/moneyerlaw04.KeyHashes", spec := "keyHashes", apart := false }
def KeyHashesSaid : Prop := keyHashesRow.holds Try.pinned (OpenSpec.ofChange keyHashesSpec)

/-- ITS FALSE NEIGHBOUR: 'it returns false'. Refute it at one input. -/
def keyHashesWrong : ChangeSpec := { name := "keyHashes", fn := fun _ => fun
  | [d1, d2, d3] => { results := [.lit (.bool false)], args := [d1, d2, d3] }
  | _ => none }
def KeyHashesWrongFalsely : Prop := keyHashesRow.holds Try.pinned (OpenSpec.ofChange keyHashesWrong)

/-- 'moneyerlaw05.CellSets': WHATEVER THE INPUT: true; the input reads as it did. -/
def cellSetsSpec : ChangeSpec := { name := "cellSets", fn := fun _ => fun
  | [d1, d2, d3] => { results := [.lit (.bool true)], args := [d1, d2, d3] }
  | _ => none }
def cellSetsRow : OpenClaim := { program := "ytmjpdbogpeokkaa", sum := "861ee19d50b9a13b920e436ae3bb8187673636fd6c645bced35b88d7efd2ebd1", func := "moneyer/moneyerlaw05.CellSets", spec := "cellSets", unfollowed := true, recurses := true, apart := false }
def CellSetsSaid : Prop := cellSetsRow.holds Try.pinned (OpenSpec.ofChange cellSetsSpec)

/-- ITS FALSE NEIGHBOUR: 'it returns false'. Refute it at one input. -/
def cellSetsWrong : ChangeSpec := { name := "cellSets", fn := fun _ => fun
  | [d1, d2, d3] => { results := [.lit (.bool false)], args := [d1, d2, d3] }
  | _ => none }
def CellSetsWrongFalsely : Prop := cellSetsRow.holds Try.pinned (OpenSpec.ofChange cellSetsWrong)

/-- 'moneyerlaw05.CellBack': WHATEVER THE INPUT: true; the input reads as it did. -/
def cellBackSpec : ChangeSpec := { name := "cellBack", fn := fun _ => fun
  | [d1, d2] => { results := [.lit (.bool true)], args := [d1, d2] }
  | _ => none }
def cellBackRow : OpenClaim := { program := "ytmjpdbogpeokkaa", sum := "861ee19d50b9a13b920e436ae3bb8187673636fd6c645bced35b88d7efd2ebd1", func := "moneyer/moneyerlaw05.CellBack", spec := "cellBack", unfollowed := true, recurses := true, apart := false }
def CellBackSaid : Prop := cellBackRow.holds Try.pinned (OpenSpec.ofChange cellBackSpec)

/-- ITS FALSE NEIGHBOUR: 'it returns false'. Refute it at one input. -/
def cellBackWrong : ChangeSpec := { name := "cellBack", fn := fun _ => fun
  | [d1, d2] => { results := [.lit (.bool false)], args := [d1, d2] }
  | _ => none }
def CellBackWrongFalsely : Prop := cellBackRow.holds Try.pinned (OpenSpec.ofChange cellBackWrong)

/- THE SECOND FORM. 'bulk': how many values and letters a reading holds, each counted each time it is reached (what is shared counts as often as it is met; a slice's spare places count too). A statement '..UptoSaid' is the law's where the arguments, and the package variables that the reading takes, are together of bulk at most 1048576: NARROWER than '..Said'. Prove '..Said' where nothing that the law and all that it calls make is longer than what came in: it says more and counts as full. Else prove '..UptoSaid'. A law counts once. -/
mutual
def uptoBulk {H : Type} : DataW H → Nat
  | .lit (.string bytes) => bytes.length + 1
  | .lit _ => 1
  | .nil => 1
  | .ptr d => uptoBulk d + 1
  | .slice elems spare => uptoBulkAll elems + uptoBulkAll spare + 1
  | .agg parts => uptoBulkAll parts + 1
  | .iface _ d => uptoBulk d + 1
  | .map entries => uptoBulkEntries entries + 1
  | .held _ => 1
def uptoBulkAll {H : Type} : List (DataW H) → Nat
  | [] => 0
  | d :: r => uptoBulk d + uptoBulkAll r
def uptoBulkEntries {H : Type} : List (Lit × DataW H) → Nat
  | [] => 0
  | x :: r => uptoBulkEntry x + uptoBulkEntries r
def uptoBulkEntry {H : Type} : Lit × DataW H → Nat
  | (.string bytes, d) => bytes.length + uptoBulk d + 1
  | (_, d) => uptoBulk d + 1
 end
def uptoSmall : (H : Type) → List (DataW H) → Bool := fun _ ds => decide (uptoBulkAll ds ≤ 1048576)
def OpenSpec.upto (s : _root_.Go.ChangeSpec) : _root_.Go.OpenSpec := { _root_.Go.OpenSpec.ofChange s with cond := some uptoSmall }

/-- 'moneyerlaw04.KeyChecks', WHERE WHAT IT READS IS OF BULK AT MOST 1048576: true; the input reads as it did. -/
def keyChecksUptoRow : OpenClaim := { program := "ytmjpdbogpeokkaa", sum := "861ee19d50b9a13b920e436ae3bb8187673636fd6c645bced35b88d7efd2ebd1", func := "moneyer/moneyerlaw04.KeyChecks", spec := "keyChecks", apart := false, narrowed := true }
def KeyChecksUptoSaid : Prop := keyChecksUptoRow.holds Try.pinned (OpenSpec.upto keyChecksSpec)

/-- 'moneyerlaw04.KeyHashes', WHERE WHAT IT READS IS OF BULK AT MOST 1048576: true; the input reads as it did. -/
def keyHashesUptoRow : OpenClaim := { program := "ytmjpdbogpeokkaa", sum := "861ee19d50b9a13b920e436ae3bb8187673636fd6c645bced35b88d7efd2ebd1", func := "moneyer/moneyerlaw04.KeyHashes", spec := "keyHashes", apart := false, narrowed := true }
def KeyHashesUptoSaid : Prop := keyHashesUptoRow.holds Try.pinned (OpenSpec.upto keyHashesSpec)

/-- 'moneyerlaw05.CellSets', WHERE WHAT IT READS IS OF BULK AT MOST 1048576: true; the input reads as it did. -/
def cellSetsUptoRow : OpenClaim := { program := "ytmjpdbogpeokkaa", sum := "861ee19d50b9a13b920e436ae3bb8187673636fd6c645bced35b88d7efd2ebd1", func := "moneyer/moneyerlaw05.CellSets", spec := "cellSets", unfollowed := true, recurses := true, apart := false, narrowed := true }
def CellSetsUptoSaid : Prop := cellSetsUptoRow.holds Try.pinned (OpenSpec.upto cellSetsSpec)

/-- 'moneyerlaw05.CellBack', WHERE WHAT IT READS IS OF BULK AT MOST 1048576: true; the input reads as it did. -/
def cellBackUptoRow : OpenClaim := { program := "ytmjpdbogpeokkaa", sum := "861ee19d50b9a13b920e436ae3bb8187673636fd6c645bced35b88d7efd2ebd1", func := "moneyer/moneyerlaw05.CellBack", spec := "cellBack", unfollowed := true, recurses := true, apart := false, narrowed := true }
def CellBackUptoSaid : Prop := cellBackUptoRow.holds Try.pinned (OpenSpec.upto cellBackSpec)

end Rows
end Go.Proofs.Ytmjpdbogpeokkaa
