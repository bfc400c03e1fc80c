/-
  No cell of these rows narrows 'for every input' (looked for: loops, veiled, ifaces, maps, wideKeys, modest, calm, conditions, laid).
  DERIVED. THE GIVEN ROWS OF THIS SEAT. 4 by the template 'for every input the law returns true; each argument reads behind the call as it read before'; 0 by the template 'total and deterministic' (their statements: YtiokcemlfdonnaaTotals.lean).
  GIVEN WITH THE SEED: the statements are not yours to turn. If you find one false, say at which input.
  Laid BY PROGRAM, IN A SANDBOX (cutbox-rows.mjs): the forced cells as the released guide's own fill.sh prints them over the translation 69c000f03da1874f… (all of the seat's roots in one cut). By AI agents, Wed Nov 11 2026. No macro, syntax, notation, axiom, sorry.
-/
import Derived.Test.YtiokcemlfdonnaaChecked
import GoSem.Claim
import GoSem.ClaimJoined
import GoSem.ClaimMapViews
import Derived.JoinedTies
import Derived.KernelRfl
namespace Go.Proofs.Ytiokcemlfdonnaa
/- THE CELL 'sum', in the pinned program and in every row, IS THE sha256 OF THE DUMP (.gsa) THAT YtiokcemlfdonnaaProg.lean LOADS. Nothing in Lean hashes anything: it is a label: what it is worth is what the hold of that sum in a sandbox is worth. -/
noncomputable def Try.pinned : Pinned := { name := "ytiokcemlfdonnaa", sum := "69c000f03da1874fba82e9be7288e7811fac148b1bd85cfb07a3442c6d2c4337", checked := Try.checked }
namespace Rows
def none {H : Type} : Left H := { results := [], args := [] }

/-- 'moneyerlaw18.RecPuts': WHATEVER THE INPUT: true; the input reads as it did. -/
def recPutsSpec : ChangeSpec := { name := "recPuts", fn := fun _ => fun
  | [d1, d2] => { results := [.lit (.bool true)], args := [d1, d2] }
  | _ => none }
def recPutsRow : OpenClaim := { program := "ytiokcemlfdonnaa", sum := "69c000f03da1874fba82e9be7288e7811fac148b1bd85cfb07a3442c6d2c4337", func := "moneyer/moneyerlaw18.RecPuts", spec := "recPuts", unfollowed := true, recurses := true, apart := false }
def RecPutsSaid : Prop := recPutsRow.holds Try.pinned (OpenSpec.ofChange recPutsSpec)

/-- ITS FALSE NEIGHBOUR: 'it returns false'. Refute it at one input. -/
def recPutsWrong : ChangeSpec := { name := "recPuts", fn := fun _ => fun
  | [d1, d2] => { results := [.lit (.bool false)], args := [d1, d2] }
  | _ => none }
def RecPutsWrongFalsely : Prop := recPutsRow.holds Try.pinned (OpenSpec.ofChange recPutsWrong)

/-- 'moneyerlaw18.RecRows': WHATEVER THE INPUT: true; the input reads as it did. -/
def recRowsSpec : ChangeSpec := { name := "recRows", fn := fun _ => fun
  | [d1, d2] => { results := [.lit (.bool true)], args := [d1, d2] }
  | _ => none }
def recRowsRow : OpenClaim := { program := "ytiokcemlfdonnaa", sum := "69c000f03da1874fba82e9be7288e7811fac148b1bd85cfb07a3442c6d2c4337", func := "moneyer/moneyerlaw18.RecRows", spec := "recRows", unfollowed := true, recurses := true, apart := false }
def RecRowsSaid : Prop := recRowsRow.holds Try.pinned (OpenSpec.ofChange recRowsSpec)

/-- ITS FALSE NEIGHBOUR: 'it returns false'. Refute it at one input. -/
def recRowsWrong : ChangeSpec := { name := "recRows", fn := fun _ => fun
  | [d1, d2] => { results := [.lit (.bool false)], args := [d1, d2] }
  | _ => none }
def RecRowsWrongFalsely : Prop := recRowsRow.holds Try.pinned (OpenSpec.ofChange recRowsWrong)

/-- 'moneyerlaw18.RecCuts': WHATEVER THE INPUT: true; the input reads as it did. -/
def recCutsSpec : ChangeSpec := { name := "recCuts", fn := fun _ => fun
  | [d1, d2, d3] => { results := [.lit (.bool true)], args := [d1, d2, d3] }
  | _ => none }
def recCutsRow : OpenClaim := { program := "ytiokcemlfdonnaa", sum := "69c000f03da1874fba82e9be7288e7811fac148b1bd85cfb07a3442c6d2c4337", func := "moneyer/moneyerlaw18.RecCuts", spec := "recCuts", unfollowed := true, recurses := true, apart := false }
def RecCutsSaid : Prop := recCutsRow.holds Try.pinned (OpenSpec.ofChange recCutsSpec)

/-- ITS FALSE NEIGHBOUR: 'it returns false'. Refute it at one input. -/
def recCutsWrong : ChangeSpec := { name := "recCuts", fn := fun _ => fun
  | [d1, d2, d3] => { results := [.lit (.bool false)], args := [d1, d2, d3] }
  | _ => none }
def RecCutsWrongFalsely : Prop := recCutsRow.holds Try.pinned (OpenSpec.ofChange recCutsWrong)

/-- 'moneyerlaw19.WalNils': WHATEVER THE INPUT: true; the input reads as it did. -/
def walNilsSpec : ChangeSpec := { name := "walNils", fn := fun _ => fun
  | [d1, d2] => { results := [.lit (.bool true)], args := [d1, d2] }
  | _ => none }
def walNilsRow : OpenClaim := { program := "ytiokcemlfdonnaa", sum := "69c000f03da1874fba82e9be7288e7811fac148b1bd85cfb07a3442c6d2c4337", func := "moneyer/moneyerlaw19.WalNils", spec := "walNils", unfollowed := true, recurses := true, apart := false }
def WalNilsSaid : Prop := walNilsRow.holds Try.pinned (OpenSpec.ofChange walNilsSpec)

/-- ITS FALSE NEIGHBOUR: 'it returns false'. Refute it at one input. -/
def walNilsWrong : ChangeSpec := { name := "walNils", fn := fun _ => fun
  | [d1, d2] => { results := [.lit (.bool false)], args := [d1, d2] }
  | _ => none }
def WalNilsWrongFalsely : Prop := walNilsRow.holds Try.pinned (OpenSpec.ofChange walNilsWrong)

/- THE SECOND FORM. 'bulk': how many values and letters a reading holds, each counted each time it is reached (what is shared counts as often as it is met; a slice's spare places count too). A statement '..UptoSaid' is the law's where the arguments, and the package variables that the reading takes, are together of bulk at most 1048576: NARROWER than '..Said'. Prove '..Said' where nothing that the law and all that it calls make is longer than what came in: it says more and counts as full. Else prove '..UptoSaid'. A law counts once. -/
mutual
def uptoBulk {H : Type} : DataW H → Nat
  | .lit (.string bytes) => bytes.length + 1
  | .lit _ => 1
  | .nil => 1
  | .ptr d => uptoBulk d + 1
  | .slice elems spare => uptoBulkAll elems + uptoBulkAll spare + 1
  | .agg parts => uptoBulkAll parts + 1
  | .iface _ d => uptoBulk d + 1
  | .map entries => uptoBulkEntries entries + 1
  | .held _ => 1
def uptoBulkAll {H : Type} : List (DataW H) → Nat
  | [] => 0
  | d :: r => uptoBulk d + uptoBulkAll r
def uptoBulkEntries {H : Type} : List (Lit × DataW H) → Nat
  | [] => 0
  | x :: r => uptoBulkEntry x + uptoBulkEntries r
def uptoBulkEntry {H : Type} : Lit × DataW H → Nat
  | (.string bytes, d) => bytes.length + uptoBulk d + 1
  | (_, d) => uptoBulk d + 1
 end
def uptoSmall : (H : Type) → List (DataW H) → Bool := fun _ ds => decide (uptoBulkAll ds ≤ 1048576)
def OpenSpec.upto (s : _root_.Go.ChangeSpec) : _root_.Go.OpenSpec := { _root_.Go.OpenSpec.ofChange s with cond := some uptoSmall }

/-- 'moneyerlaw18.RecPuts', WHERE WHAT IT READS IS OF BULK AT MOST 1048576: true; the input reads as it did. -/
def recPutsUptoRow : OpenClaim := { program := "ytiokcemlfdonnaa", sum := "69c000f03da1874fba82e9be7288e7811fac148b1bd85cfb07a3442c6d2c4337", func := "moneyer/moneyerlaw18.RecPuts", spec := "recPuts", unfollowed := true, recurses := true, apart := false, narrowed := true }
def RecPutsUptoSaid : Prop := recPutsUptoRow.holds Try.pinned (OpenSpec.upto recPutsSpec)

/-- 'moneyerlaw18.RecRows', WHERE WHAT IT READS IS OF BULK AT MOST 1048576: true; the input reads as it did. -/
def recRowsUptoRow : OpenClaim := { program := "ytiokcemlfdonnaa", sum := "69c000f03da1874fba82e9be7288e7811fac148b1bd85cfb07a3442c6d2c4337", func := "moneyer/moneyerlaw18.RecRows", spec := "recRows", unfollowed := true, recurses := true, apart := false, narrowed := true }
def RecRowsUptoSaid : Prop := recRowsUptoRow.holds Try.pinned (OpenSpec.upto recRowsSpec)

/-- 'moneyerlaw18.RecCuts', WHERE WHAT IT READS IS OF BULK AT MOST 1048576: true; the input reads as it did. -/
def recCutsUptoRow : OpenClaim := { program := "ytiokcemlfdonnaa", sum := "69c000f03da1874fba82e9be7288e7811fac148b1bd85cfb07a3442c6d2c4337", func := "moneyer/moneyerlaw18.RecCuts", spec := "recCuts", unfollowed := true, recurses := true, apart := false, narrowed := true }
def RecCutsUptoSaid : Prop := recCutsUptoRow.holds Try.pinned (OpenSpec.upto recCutsSpec)

/-- 'moneyerlaw19.WalNils', WHERE WHAT IT READS IS OF BULK AT MOST 1048576: true; the input reads as it did. -/
def walNilsUptoRow : OpenClaim := { program := "ytiokcemlfdonnaa", sum := "69c000f03da1874fba82e9be7288e7811fac148b1bd85cfb07a3442c6d2c4337", func := "moneyer/moneyerlaw19.WalNils", spec := "walNils", unfollowed := true, recurses := true, apart := false, narrowed := true }
def WalNilsUptoSaid : Prop := walNilsUptoRow.holds Try.pinned (OpenSpec.upto walNilsSpec)

end Rows
end Go.Proofs.Ytiokcemlfdonnaa
