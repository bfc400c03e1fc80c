/-
  No cell of these rows narrows 'for every input' (looked for: loops, veiled, ifaces, maps, wideKeys, modest, calm, conditions, laid).
  DERIVED. THE GIVEN ROWS OF THIS SEAT. 12 by the template 'for every input the law returns true; each argument reads behind the call as it read before'; 0 by the template 'total and deterministic' (their statements: YtjengjbkdflapaaTotals.lean).
  GIVEN WITH THE SEED: the statements are not yours to turn. If you find one false, say at which input.
  Laid BY PROGRAM, IN A SANDBOX (cutbox-rows.mjs): the forced cells as the released guide's own fill.sh prints them over the translation a6ebdc992fc84302… (all of the seat's roots in one cut). By AI agents, Wed Nov 11 2026. No macro, syntax, notation, axiom, sorry.
-/
import Derived.Test.YtjengjbkdflapaaChecked
import GoSem.Claim
import GoSem.ClaimJoined
import GoSem.ClaimMapViews
import Derived.JoinedTies
import Derived.KernelRfl
namespace Go.Proofs.Ytjengjbkdflapaa
/- THE CELL 'sum', in the pinned program and in every row, IS THE sha256 OF THE DUMP (.gsa) THAT YtjengjbkdflapaaProg.lean LOADS. Nothing in Lean hashes anything: it is a label: what it is worth is what the hold of that sum in a sandbox is worth. -/
noncomputable def Try.pinned : Pinned := { name := "ytjengjbkdflapaa", sum := "a6ebdc992fc84302f97aee9b8e09404409832edfb7ff449eab4e4a59280f0137", checked := Try.checked }
namespace Rows
def none {H : Type} : Left H := { results := [], args := [] }

/-- 'moneyerlaw05.CellPuts': WHATEVER THE INPUT: true; the input reads as it did. -/
def cellPutsSpec : ChangeSpec := { name := "cellPuts", fn := fun _ => fun
  | [d1, d2] => { results := [.lit (.bool true)], args := [d1, d2] }
  | _ => none }
def cellPutsRow : OpenClaim := { program := "ytjengjbkdflapaa", sum := "a6ebdc992fc84302f97aee9b8e09404409832edfb7ff449eab4e4a59280f0137", func := "moneyer/moneyerlaw05.CellPuts", spec := "cellPuts", unfollowed := true, recurses := true, apart := false }
def CellPutsSaid : Prop := cellPutsRow.holds Try.pinned (OpenSpec.ofChange cellPutsSpec)

/-- ITS FALSE NEIGHBOUR: 'it returns false'. Refute it at one input. -/
def cellPutsWrong : ChangeSpec := { name := "cellPuts", fn := fun _ => fun
  | [d1, d2] => { results := [.lit (.bool false)], args := [d1, d2] }
  | _ => none }
def CellPutsWrongFalsely : Prop := cellPutsRow.holds Try.pinned (OpenSpec.ofChange cellPutsWrong)

/-- 'moneyerlaw06.SlotSames': WHATEVER THE INPUT: true; the input reads as it did. -/
def slotSamesSpec : ChangeSpec := { name := "slotSames", fn := fun _ => fun
  | [d1, d2] => { results := [.lit (.bool true)], args := [d1, d2] }
  | _ => none }
def slotSamesRow : OpenClaim := { program := "ytjengjbkdflapaa", sum := "a6ebdc992fc84302f97aee9b8e09404409832edfb7ff449eab4e4a59280f0137", func := "moneyer/moneyerlaw06.SlotSames", spec := "slotSames", unfollowed := true, recurses := true, apart := false }
def SlotSamesSaid : Prop := slotSamesRow.holds Try.pinned (OpenSpec.ofChange slotSamesSpec)

/-- ITS FALSE NEIGHBOUR: 'it returns false'. Refute it at one input. -/
def slotSamesWrong : ChangeSpec := { name := "slotSames", fn := fun _ => fun
  | [d1, d2] => { results := [.lit (.bool false)], args := [d1, d2] }
  | _ => none }
def SlotSamesWrongFalsely : Prop := slotSamesRow.holds Try.pinned (OpenSpec.ofChange slotSamesWrong)

/-- 'moneyerlaw06.SlotPuts': WHATEVER THE INPUT: true; the input reads as it did. -/
def slotPutsSpec : ChangeSpec := { name := "slotPuts", fn := fun _ => fun
  | [d] => { results := [.lit (.bool true)], args := [d] }
  | _ => none }
def slotPutsRow : OpenClaim := { program := "ytjengjbkdflapaa", sum := "a6ebdc992fc84302f97aee9b8e09404409832edfb7ff449eab4e4a59280f0137", func := "moneyer/moneyerlaw06.SlotPuts", spec := "slotPuts", unfollowed := true, recurses := true, apart := false }
def SlotPutsSaid : Prop := slotPutsRow.holds Try.pinned (OpenSpec.ofChange slotPutsSpec)

/-- ITS FALSE NEIGHBOUR: 'it returns false'. Refute it at one input. -/
def slotPutsWrong : ChangeSpec := { name := "slotPuts", fn := fun _ => fun
  | [d] => { results := [.lit (.bool false)], args := [d] }
  | _ => none }
def SlotPutsWrongFalsely : Prop := slotPutsRow.holds Try.pinned (OpenSpec.ofChange slotPutsWrong)

/-- 'moneyerlaw06.SlotGets': WHATEVER THE INPUT: true; the input reads as it did. -/
def slotGetsSpec : ChangeSpec := { name := "slotGets", fn := fun _ => fun
  | [d] => { results := [.lit (.bool true)], args := [d] }
  | _ => none }
def slotGetsRow : OpenClaim := { program := "ytjengjbkdflapaa", sum := "a6ebdc992fc84302f97aee9b8e09404409832edfb7ff449eab4e4a59280f0137", func := "moneyer/moneyerlaw06.SlotGets", spec := "slotGets", unfollowed := true, recurses := true, apart := false }
def SlotGetsSaid : Prop := slotGetsRow.holds Try.pinned (OpenSpec.ofChange slotGetsSpec)

/-- ITS FALSE NEIGHBOUR: 'it returns false'. Refute it at one input. -/
def slotGetsWrong : ChangeSpec := { name := "slotGets", fn := fun _ => fun
  | [d] => { results := [.lit (.bool false)], args := [d] }
  | _ => none }
def SlotGetsWrongFalsely : Prop := slotGetsRow.holds Try.pinned (OpenSpec.ofChange slotGetsWrong)

/-- 'moneyerlaw07.PageSlots': WHATEVER THE INPUT: true; the input reads as it did. -/
def pageSlotsSpec : ChangeSpec := { name := "pageSlots", fn := fun _ => fun
  | [d1, d2, d3] => { results := [.lit (.bool true)], args := [d1, d2, d3] }
  | _ => none }
def pageSlotsRow : OpenClaim := { program := "ytjengjbkdflapaa", sum := "a6ebdc992fc84302f97aee9b8e09404409832edfb7ff449eab4e4a59280f0137", func := "moneyer/moneyerlaw07.PageSlots", spec := "pageSlots", unfollowed := true, recurses := true, apart := false }
def PageSlotsSaid : Prop := pageSlotsRow.holds Try.pinned (OpenSpec.ofChange pageSlotsSpec)

/-- ITS FALSE NEIGHBOUR: 'it returns false'. Refute it at one input. -/
def pageSlotsWrong : ChangeSpec := { name := "pageSlots", fn := fun _ => fun
  | [d1, d2, d3] => { results := [.lit (.bool false)], args := [d1, d2, d3] }
  | _ => none }
def PageSlotsWrongFalsely : Prop := pageSlotsRow.holds Try.pinned (OpenSpec.ofChange pageSlotsWrong)

/-- 'moneyerlaw07.PageNums': WHATEVER THE INPUT: true; the input reads as it did. -/
def pageNumsSpec : ChangeSpec := { name := "pageNums", fn := fun _ => fun
  | [d1, d2] => { results := [.lit (.bool true)], args := [d1, d2] }
  | _ => none }
def pageNumsRow : OpenClaim := { program := "ytjengjbkdflapaa", sum := "a6ebdc992fc84302f97aee9b8e09404409832edfb7ff449eab4e4a59280f0137", func := "moneyer/moneyerlaw07.PageNums", spec := "pageNums", unfollowed := true, recurses := true, apart := false }
def PageNumsSaid : Prop := pageNumsRow.holds Try.pinned (OpenSpec.ofChange pageNumsSpec)

/-- ITS FALSE NEIGHBOUR: 'it returns false'. Refute it at one input. -/
def pageNumsWrong : ChangeSpec := { name := "pageNums", fn := fun _ => fun
  | [d1, d2] => { results := [.lit (.bool false)], args := [d1, d2] }
  | _ => none }
def PageNumsWrongFalsely : Prop := pageNumsRow.holds Try.pinned (OpenSpec.ofChange pageNumsWrong)

/-- 'moneyerlaw07.PageApart': WHATEVER THE INPUT: true; the input reads as it did. -/
def pageApartSpec : ChangeSpec := { name := "pageApart", fn := fun _ => fun
  | [d1, d2, d3, d4] => { results := [.lit (.bool true)], args := [d1, d2, d3, d4] }
  | _ => none }
def pageApartRow : OpenClaim := { program := "ytjengjbkdflapaa", sum := "a6ebdc992fc84302f97aee9b8e09404409832edfb7ff449eab4e4a59280f0137", func := "moneyer/moneyerlaw07.PageApart", spec := "pageApart", unfollowed := true, recurses := true, apart := false }
def PageApartSaid : Prop := pageApartRow.holds Try.pinned (OpenSpec.ofChange pageApartSpec)

/-- ITS FALSE NEIGHBOUR: 'it returns false'. Refute it at one input. -/
def pageApartWrong : ChangeSpec := { name := "pageApart", fn := fun _ => fun
  | [d1, d2, d3, d4] => { results := [.lit (.bool false)], args := [d1, d2, d3, d4] }
  | _ => none }
def PageApartWrongFalsely : Prop := pageApartRow.holds Try.pinned (OpenSpec.ofChange pageApartWrong)

/-- 'moneyerlaw07.PageChecks': WHATEVER THE INPUT: true; the input reads as it did. -/
def pageChecksSpec : ChangeSpec := { name := "pageChecks", fn := fun _ => fun
  | [d1, d2] => { results := [.lit (.bool true)], args := [d1, d2] }
  | _ => none }
def pageChecksRow : OpenClaim := { program := "ytjengjbkdflapaa", sum := "a6ebdc992fc84302f97aee9b8e09404409832edfb7ff449eab4e4a59280f0137", func := "moneyer/moneyerlaw07.PageChecks", spec := "pageChecks", unfollowed := true, recurses := true, apart := false }
def PageChecksSaid : Prop := pageChecksRow.holds Try.pinned (OpenSpec.ofChange pageChecksSpec)

/-- ITS FALSE NEIGHBOUR: 'it returns false'. Refute it at one input. -/
def pageChecksWrong : ChangeSpec := { name := "pageChecks", fn := fun _ => fun
  | [d1, d2] => { results := [.lit (.bool false)], args := [d1, d2] }
  | _ => none }
def PageChecksWrongFalsely : Prop := pageChecksRow.holds Try.pinned (OpenSpec.ofChange pageChecksWrong)

/-- 'moneyerlaw21.MetaGets': WHATEVER THE INPUT: true; the input reads as it did. -/
def metaGetsSpec : ChangeSpec := { name := "metaGets", fn := fun _ => fun
  | [d1, d2] => { results := [.lit (.bool true)], args := [d1, d2] }
  | _ => none }
def metaGetsRow : OpenClaim := { program := "ytjengjbkdflapaa", sum := "a6ebdc992fc84302f97aee9b8e09404409832edfb7ff449eab4e4a59280f0137", func := "moneyer/moneyerlaw21.MetaGets", spec := "metaGets", unfollowed := true, recurses := true, apart := false }
def MetaGetsSaid : Prop := metaGetsRow.holds Try.pinned (OpenSpec.ofChange metaGetsSpec)

/-- ITS FALSE NEIGHBOUR: 'it returns false'. Refute it at one input. -/
def metaGetsWrong : ChangeSpec := { name := "metaGets", fn := fun _ => fun
  | [d1, d2] => { results := [.lit (.bool false)], args := [d1, d2] }
  | _ => none }
def MetaGetsWrongFalsely : Prop := metaGetsRow.holds Try.pinned (OpenSpec.ofChange metaGetsWrong)

/-- 'moneyerlaw17.UndoOfs': WHATEVER THE INPUT: true; the input reads as it did. -/
def undoOfsSpec : ChangeSpec := { name := "undoOfs", fn := fun _ => fun
  | [d1, d2, d3, d4, d5] => { results := [.lit (.bool true)], args := [d1, d2, d3, d4, d5] }
  | _ => none }
def undoOfsRow : OpenClaim := { program := "ytjengjbkdflapaa", sum := "a6ebdc992fc84302f97aee9b8e09404409832edfb7ff449eab4e4a59280f0137", func := "moneyer/moneyerlaw17.UndoOfs", spec := "undoOfs", inPlace := ["math/bits.Add64", "math/bits.Sub64"], unfollowed := true, recurses := true, apart := false }
def UndoOfsSaid : Prop := undoOfsRow.holds Try.pinned (OpenSpec.ofChange undoOfsSpec)

/-- ITS FALSE NEIGHBOUR: 'it returns false'. Refute it at one input. -/
def undoOfsWrong : ChangeSpec := { name := "undoOfs", fn := fun _ => fun
  | [d1, d2, d3, d4, d5] => { results := [.lit (.bool false)], args := [d1, d2, d3, d4, d5] }
  | _ => none }
def UndoOfsWrongFalsely : Prop := undoOfsRow.holds Try.pinned (OpenSpec.ofChange undoOfsWrong)

/-- 'moneyerlaw17.UndoBacks': WHATEVER THE INPUT: true; the input reads as it did. -/
def undoBacksSpec : ChangeSpec := { name := "undoBacks", fn := fun _ => fun
  | [d1, d2, d3] => { results := [.lit (.bool true)], args := [d1, d2, d3] }
  | _ => none }
def undoBacksRow : OpenClaim := { program := "ytjengjbkdflapaa", sum := "a6ebdc992fc84302f97aee9b8e09404409832edfb7ff449eab4e4a59280f0137", func := "moneyer/moneyerlaw17.UndoBacks", spec := "undoBacks", inPlace := ["math/bits.Add64", "math/bits.Sub64"], unfollowed := true, recurses := true, apart := false }
def UndoBacksSaid : Prop := undoBacksRow.holds Try.pinned (OpenSpec.ofChange undoBacksSpec)

/-- ITS FALSE NEIGHBOUR: 'it returns false'. Refute it at one input. -/
def undoBacksWrong : ChangeSpec := { name := "undoBacks", fn := fun _ => fun
  | [d1, d2, d3] => { results := [.lit (.bool false)], args := [d1, d2, d3] }
  | _ => none }
def UndoBacksWrongFalsely : Prop := undoBacksRow.holds Try.pinned (OpenSpec.ofChange undoBacksWrong)

/-- 'moneyerlaw17.UndoPuts': WHATEVER THE INPUT: true; the input reads as it did. -/
def undoPutsSpec : ChangeSpec := { name := "undoPuts", fn := fun _ => fun
  | [d1, d2, d3] => { results := [.lit (.bool true)], args := [d1, d2, d3] }
  | _ => none }
def undoPutsRow : OpenClaim := { program := "ytjengjbkdflapaa", sum := "a6ebdc992fc84302f97aee9b8e09404409832edfb7ff449eab4e4a59280f0137", func := "moneyer/moneyerlaw17.UndoPuts", spec := "undoPuts", unfollowed := true, recurses := true, apart := false }
def UndoPutsSaid : Prop := undoPutsRow.holds Try.pinned (OpenSpec.ofChange undoPutsSpec)

/-- ITS FALSE NEIGHBOUR: 'it returns false'. Refute it at one input. -/
def undoPutsWrong : ChangeSpec := { name := "undoPuts", fn := fun _ => fun
  | [d1, d2, d3] => { results := [.lit (.bool false)], args := [d1, d2, d3] }
  | _ => none }
def UndoPutsWrongFalsely : Prop := undoPutsRow.holds Try.pinned (OpenSpec.ofChange undoPutsWrong)

/- THE SECOND FORM. 'bulk': how many values and letters a reading holds, each counted each time it is reached (what is shared counts as often as it is met; a slice's spare places count too). A statement '..UptoSaid' is the law's where the arguments, and the package variables that the reading takes, are together of bulk at most 1048576: NARROWER than '..Said'. Prove '..Said' where nothing that the law and all that it calls make is longer than what came in: it says more and counts as full. Else prove '..UptoSaid'. A law counts once. -/
mutual
def uptoBulk {H : Type} : DataW H → Nat
  | .lit (.string bytes) => bytes.length + 1
  | .lit _ => 1
  | .nil => 1
  | .ptr d => uptoBulk d + 1
  | .slice elems spare => uptoBulkAll elems + uptoBulkAll spare + 1
  | .agg parts => uptoBulkAll parts + 1
  | .iface _ d => uptoBulk d + 1
  | .map entries => uptoBulkEntries entries + 1
  | .held _ => 1
def uptoBulkAll {H : Type} : List (DataW H) → Nat
  | [] => 0
  | d :: r => uptoBulk d + uptoBulkAll r
def uptoBulkEntries {H : Type} : List (Lit × DataW H) → Nat
  | [] => 0
  | x :: r => uptoBulkEntry x + uptoBulkEntries r
def uptoBulkEntry {H : Type} : Lit × DataW H → Nat
  | (.string bytes, d) => bytes.length + uptoBulk d + 1
  | (_, d) => uptoBulk d + 1
 end
def uptoSmall : (H : Type) → List (DataW H) → Bool := fun _ ds => decide (uptoBulkAll ds ≤ 1048576)
def OpenSpec.upto (s : _root_.Go.ChangeSpec) : _root_.Go.OpenSpec := { _root_.Go.OpenSpec.ofChange s with cond := some uptoSmall }

/-- 'moneyerlaw05.CellPuts', WHERE WHAT IT READS IS OF BULK AT MOST 1048576: true; the input reads as it did. -/
def cellPutsUptoRow : OpenClaim := { program := "ytjengjbkdflapaa", sum := "a6ebdc992fc84302f97aee9b8e09404409832edfb7ff449eab4e4a59280f0137", func := "moneyer/moneyerlaw05.CellPuts", spec := "cellPuts", unfollowed := true, recurses := true, apart := false, narrowed := true }
def CellPutsUptoSaid : Prop := cellPutsUptoRow.holds Try.pinned (OpenSpec.upto cellPutsSpec)

/-- 'moneyerlaw06.SlotSames', WHERE WHAT IT READS IS OF BULK AT MOST 1048576: true; the input reads as it did. -/
def slotSamesUptoRow : OpenClaim := { program := "ytjengjbkdflapaa", sum := "a6ebdc992fc84302f97aee9b8e09404409832edfb7ff449eab4e4a59280f0137", func := "moneyer/moneyerlaw06.SlotSames", spec := "slotSames", unfollowed := true, recurses := true, apart := false, narrowed := true }
def SlotSamesUptoSaid : Prop := slotSamesUptoRow.holds Try.pinned (OpenSpec.upto slotSamesSpec)

/-- 'moneyerlaw06.SlotPuts', WHERE WHAT IT READS IS OF BULK AT MOST 1048576: true; the input reads as it did. -/
def slotPutsUptoRow : OpenClaim := { program := "ytjengjbkdflapaa", sum := "a6ebdc992fc84302f97aee9b8e09404409832edfb7ff449eab4e4a59280f0137", func := "moneyer/moneyerlaw06.SlotPuts", spec := "slotPuts", unfollowed := true, recurses := true, apart := false, narrowed := true }
def SlotPutsUptoSaid : Prop := slotPutsUptoRow.holds Try.pinned (OpenSpec.upto slotPutsSpec)

/-- 'moneyerlaw06.SlotGets', WHERE WHAT IT READS IS OF BULK AT MOST 1048576: true; the input reads as it did. -/
def slotGetsUptoRow : OpenClaim := { program := "ytjengjbkdflapaa", sum := "a6ebdc992fc84302f97aee9b8e09404409832edfb7ff449eab4e4a59280f0137", func := "moneyer/moneyerlaw06.SlotGets", spec := "slotGets", unfollowed := true, recurses := true, apart := false, narrowed := true }
def SlotGetsUptoSaid : Prop := slotGetsUptoRow.holds Try.pinned (OpenSpec.upto slotGetsSpec)

/-- 'moneyerlaw07.PageSlots', WHERE WHAT IT READS IS OF BULK AT MOST 1048576: true; the input reads as it did. -/
def pageSlotsUptoRow : OpenClaim := { program := "ytjengjbkdflapaa", sum := "a6ebdc992fc84302f97aee9b8e09404409832edfb7ff449eab4e4a59280f0137", func := "moneyer/moneyerlaw07.PageSlots", spec := "pageSlots", unfollowed := true, recurses := true, apart := false, narrowed := true }
def PageSlotsUptoSaid : Prop := pageSlotsUptoRow.holds Try.pinned (OpenSpec.upto pageSlotsSpec)

/-- 'moneyerlaw07.PageNums', WHERE WHAT IT READS IS OF BULK AT MOST 1048576: true; the input reads as it did. -/
def pageNumsUptoRow : OpenClaim := { program := "ytjengjbkdflapaa", sum := "a6ebdc992fc84302f97aee9b8e09404409832edfb7ff449eab4e4a59280f0137", func := "moneyer/moneyerlaw07.PageNums", spec := "pageNums", unfollowed := true, recurses := true, apart := false, narrowed := true }
def PageNumsUptoSaid : Prop := pageNumsUptoRow.holds Try.pinned (OpenSpec.upto pageNumsSpec)

/-- 'moneyerlaw07.PageApart', WHERE WHAT IT READS IS OF BULK AT MOST 1048576: true; the input reads as it did. -/
def pageApartUptoRow : OpenClaim := { program := "ytjengjbkdflapaa", sum := "a6ebdc992fc84302f97aee9b8e09404409832edfb7ff449eab4e4a59280f0137", func := "moneyer/moneyerlaw07.PageApart", spec := "pageApart", unfollowed := true, recurses := true, apart := false, narrowed := true }
def PageApartUptoSaid : Prop := pageApartUptoRow.holds Try.pinned (OpenSpec.upto pageApartSpec)

/-- 'moneyerlaw07.PageChecks', WHERE WHAT IT READS IS OF BULK AT MOST 1048576: true; the input reads as it did. -/
def pageChecksUptoRow : OpenClaim := { program := "ytjengjbkdflapaa", sum := "a6ebdc992fc84302f97aee9b8e09404409832edfb7ff449eab4e4a59280f0137", func := "moneyer/moneyerlaw07.PageChecks", spec := "pageChecks", unfollowed := true, recurses := true, apart := false, narrowed := true }
def PageChecksUptoSaid : Prop := pageChecksUptoRow.holds Try.pinned (OpenSpec.upto pageChecksSpec)

/-- 'moneyerlaw21.MetaGets', WHERE WHAT IT READS IS OF BULK AT MOST 1048576: true; the input reads as it did. -/
def metaGetsUptoRow : OpenClaim := { program := "ytjengjbkdflapaa", sum := "a6ebdc992fc84302f97aee9b8e09404409832edfb7ff449eab4e4a59280f0137", func := "moneyer/moneyerlaw21.MetaGets", spec := "metaGets", unfollowed := true, recurses := true, apart := false, narrowed := true }
def MetaGetsUptoSaid : Prop := metaGetsUptoRow.holds Try.pinned (OpenSpec.upto metaGetsSpec)

/-- 'moneyerlaw17.UndoOfs', WHERE WHAT IT READS IS OF BULK AT MOST 1048576: true; the input reads as it did. -/
def undoOfsUptoRow : OpenClaim := { program := "ytjengjbkdflapaa", sum := "a6ebdc992fc84302f97aee9b8e09404409832edfb7ff449eab4e4a59280f0137", func := "moneyer/moneyerlaw17.UndoOfs", spec := "undoOfs", inPlace := ["math/bits.Add64", "math/bits.Sub64"], unfollowed := true, recurses := true, apart := false, narrowed := true }
def UndoOfsUptoSaid : Prop := undoOfsUptoRow.holds Try.pinned (OpenSpec.upto undoOfsSpec)

/-- 'moneyerlaw17.UndoBacks', WHERE WHAT IT READS IS OF BULK AT MOST 1048576: true; the input reads as it did. -/
def undoBacksUptoRow : OpenClaim := { program := "ytjengjbkdflapaa", sum := "a6ebdc992fc84302f97aee9b8e09404409832edfb7ff449eab4e4a59280f0137", func := "moneyer/moneyerlaw17.UndoBacks", spec := "undoBacks", inPlace := ["math/bits.Add64", "math/bits.Sub64"], unfollowed := true, recurses := true, apart := false, narrowed := true }
def UndoBacksUptoSaid : Prop := undoBacksUptoRow.holds Try.pinned (OpenSpec.upto undoBacksSpec)

/-- 'moneyerlaw17.UndoPuts', WHERE WHAT IT READS IS OF BULK AT MOST 1048576: true; the input reads as it did. -/
def undoPutsUptoRow : OpenClaim := { program := "ytjengjbkdflapaa", sum := "a6ebdc992fc84302f97aee9b8e09404409832edfb7ff449eab4e4a59280f0137", func := "moneyer/moneyerlaw17.UndoPuts", spec := "undoPuts", unfollowed := true, recurses := true, apart := false, narrowed := true }
def UndoPutsUptoSaid : Prop := undoPutsUptoRow.holds Try.pinned (OpenSpec.upto undoPutsSpec)

end Rows
end Go.Proofs.Ytjengjbkdflapaa
