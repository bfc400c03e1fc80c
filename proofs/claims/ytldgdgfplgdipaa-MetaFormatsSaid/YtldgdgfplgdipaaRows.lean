/-
  No cell of these rows narrows 'for every input' (looked for: loops, veiled, ifaces, maps, wideKeys, modest, calm, conditions, laid).
  DERIVED. THE GIVEN ROWS OF THIS SEAT. 3 by the template 'for every input the law returns true; each argument reads behind the call as it read before'; 0 by the template 'total and deterministic' (their statements: YtldgdgfplgdipaaTotals.lean).
  GIVEN WITH THE SEED: the statements are not yours to turn. If you find one false, say at which input.
  Laid BY PROGRAM, IN A SANDBOX (cutbox-rows.mjs): the forced cells as the released guide's own fill.sh prints them over the translation d7640aa9567b5743… (all of the seat's roots in one cut). By AI agents, Wed Nov 11 2026. No macro, syntax, notation, axiom, sorry.
-/
import Derived.Test.YtldgdgfplgdipaaChecked
import GoSem.Claim
import GoSem.ClaimJoined
import GoSem.ClaimMapViews
import Derived.JoinedTies
import Derived.KernelRfl
namespace Go.Proofs.Ytldgdgfplgdipaa
/- THE CELL 'sum', in the pinned program and in every row, IS THE sha256 OF THE DUMP (.gsa) THAT YtldgdgfplgdipaaProg.lean LOADS. Nothing in Lean hashes anything: it is a label: what it is worth is what the hold of that sum in a sandbox is worth. -/
noncomputable def Try.pinned : Pinned := { name := "ytldgdgfplgdipaa", sum := "d7640aa9567b574357f359d60d0303de5c7dc56c69186a4b92b427afa4c340f8", checked := Try.checked }
namespace Rows
def none {H : Type} : Left H := { results := [], args := [] }

/-- 'moneyerlaw16.DevNils': WHATEVER THE INPUT: true; the input reads as it did. -/
def devNilsSpec : ChangeSpec := { name := "devNils", fn := fun _ => fun
  | [d] => { results := [.lit (.bool true)], args := [d] }
  | _ => none }
def devNilsRow : OpenClaim := { program := "ytldgdgfplgdipaa", sum := "d7640aa9567b574357f359d60d0303de5c7dc56c69186a4b92b427afa4c340f8", func := "moneyer/moneyerlaw16.DevNils", spec := "devNils", unfollowed := true, recurses := true, apart := false }
def DevNilsSaid : Prop := devNilsRow.holds Try.pinned (OpenSpec.ofChange devNilsSpec)

/-- ITS FALSE NEIGHBOUR: 'it returns false'. Refute it at one input. -/
def devNilsWrong : ChangeSpec := { name := "devNils", fn := fun _ => fun
  | [d] => { results := [.lit (.bool false)], args := [d] }
  | _ => none }
def DevNilsWrongFalsely : Prop := devNilsRow.holds Try.pinned (OpenSpec.ofChange devNilsWrong)

/-- 'moneyerlaw16.DevLast': WHATEVER THE INPUT: true; the input reads as it did. -/
def devLastSpec : ChangeSpec := { name := "devLast", fn := fun _ => fun
  | [d] => { results := [.lit (.bool true)], args := [d] }
  | _ => none }
def devLastRow : OpenClaim := { program := "ytldgdgfplgdipaa", sum := "d7640aa9567b574357f359d60d0303de5c7dc56c69186a4b92b427afa4c340f8", func := "moneyer/moneyerlaw16.DevLast", spec := "devLast", unfollowed := true, recurses := true, apart := false }
def DevLastSaid : Prop := devLastRow.holds Try.pinned (OpenSpec.ofChange devLastSpec)

/-- ITS FALSE NEIGHBOUR: 'it returns false'. Refute it at one input. -/
def devLastWrong : ChangeSpec := { name := "devLast", fn := fun _ => fun
  | [d] => { results := [.lit (.bool false)], args := [d] }
  | _ => none }
def DevLastWrongFalsely : Prop := devLastRow.holds Try.pinned (OpenSpec.ofChange devLastWrong)

/-- 'moneyerlaw21.MetaFormats': WHATEVER THE INPUT: true; the input reads as it did. -/
def metaFormatsSpec : ChangeSpec := { name := "metaFormats", fn := fun _ => fun
  | [d1, d2, d3] => { results := [.lit (.bool true)], args := [d1, d2, d3] }
  | _ => none }
def metaFormatsRow : OpenClaim := { program := "ytldgdgfplgdipaa", sum := "d7640aa9567b574357f359d60d0303de5c7dc56c69186a4b92b427afa4c340f8", func := "moneyer/moneyerlaw21.MetaFormats", spec := "metaFormats", unfollowed := true, recurses := true, apart := false }
def MetaFormatsSaid : Prop := metaFormatsRow.holds Try.pinned (OpenSpec.ofChange metaFormatsSpec)

/-- ITS FALSE NEIGHBOUR: 'it returns false'. Refute it at one input. -/
def metaFormatsWrong : ChangeSpec := { name := "metaFormats", fn := fun _ => fun
  | [d1, d2, d3] => { results := [.lit (.bool false)], args := [d1, d2, d3] }
  | _ => none }
def MetaFormatsWrongFalsely : Prop := metaFormatsRow.holds Try.pinned (OpenSpec.ofChange metaFormatsWrong)

/- THE SECOND FORM. 'bulk': how many values and letters a reading holds, each counted each time it is reached (what is shared counts as often as it is met; a slice's spare places count too). A statement '..UptoSaid' is the law's where the arguments, and the package variables that the reading takes, are together of bulk at most 1048576: NARROWER than '..Said'. Prove '..Said' where nothing that the law and all that it calls make is longer than what came in: it says more and counts as full. Else prove '..UptoSaid'. A law counts once. -/
mutual
def uptoBulk {H : Type} : DataW H → Nat
  | .lit (.string bytes) => bytes.length + 1
  | .lit _ => 1
  | .nil => 1
  | .ptr d => uptoBulk d + 1
  | .slice elems spare => uptoBulkAll elems + uptoBulkAll spare + 1
  | .agg parts => uptoBulkAll parts + 1
  | .iface _ d => uptoBulk d + 1
  | .map entries => uptoBulkEntries entries + 1
  | .held _ => 1
def uptoBulkAll {H : Type} : List (DataW H) → Nat
  | [] => 0
  | d :: r => uptoBulk d + uptoBulkAll r
def uptoBulkEntries {H : Type} : List (Lit × DataW H) → Nat
  | [] => 0
  | x :: r => uptoBulkEntry x + uptoBulkEntries r
def uptoBulkEntry {H : Type} : Lit × DataW H → Nat
  | (.string bytes, d) => bytes.length + uptoBulk d + 1
  | (_, d) => uptoBulk d + 1
 end
def uptoSmall : (H : Type) → List (DataW H) → Bool := fun _ ds => decide (uptoBulkAll ds ≤ 1048576)
def OpenSpec.upto (s : _root_.Go.ChangeSpec) : _root_.Go.OpenSpec := { _root_.Go.OpenSpec.ofChange s with cond := some uptoSmall }

/-- 'moneyerlaw16.DevNils', WHERE WHAT IT READS IS OF BULK AT MOST 1048576: true; the input reads as it did. -/
def devNilsUptoRow : OpenClaim := { program := "ytldgdgfplgdipaa", sum := "d7640aa9567b574357f359d60d0303de5c7dc56c69186a4b92b427afa4c340f8", func := "moneyer/moneyerlaw16.DevNils", spec := "devNils", unfollowed := true, recurses := true, apart := false, narrowed := true }
def DevNilsUptoSaid : Prop := devNilsUptoRow.holds Try.pinned (OpenSpec.upto devNilsSpec)

/-- 'moneyerlaw16.DevLast', WHERE WHAT IT READS IS OF BULK AT MOST 1048576: true; the input reads as it did. -/
def devLastUptoRow : OpenClaim := { program := "ytldgdgfplgdipaa", sum := "d7640aa9567b574357f359d60d0303de5c7dc56c69186a4b92b427afa4c340f8", func := "moneyer/moneyerlaw16.DevLast", spec := "devLast", unfollowed := true, recurses := true, apart := false, narrowed := true }
def DevLastUptoSaid : Prop := devLastUptoRow.holds Try.pinned (OpenSpec.upto devLastSpec)

/-- 'moneyerlaw21.MetaFormats', WHERE WHAT IT READS IS OF BULK AT MOST 1048576: true; the input reads as it did. -/
def metaFormatsUptoRow : OpenClaim := { program := "ytldgdgfplgdipaa", sum := "d7640aa9567b574357f359d60d0303de5c7dc56c69186a4b92b427afa4c340f8", func := "moneyer/moneyerlaw21.MetaFormats", spec := "metaFormats", unfollowed := true, recurses := true, apart := false, narrowed := true }
def MetaFormatsUptoSaid : Prop := metaFormatsUptoRow.holds Try.pinned (OpenSpec.upto metaFormatsSpec)

end Rows
end Go.Proofs.Ytldgdgfplgdipaa
