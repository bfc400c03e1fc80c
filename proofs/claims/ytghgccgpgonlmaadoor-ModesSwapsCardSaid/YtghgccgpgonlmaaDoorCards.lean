/-
  DERIVED. GIVEN WITH THE SEED: THE CARDS: each row of YtghgccgpgonlmaaDoorRows.lean that lists a variable, with what it lists TIED to the program's text (the seventh form; the later family's looks); each row that meets fmt, with fmt's text TOLD by the authors' own Lean function (tested against real Go, not proved from fmt's source: count such statements apart). THE CARD IS WHAT COUNTS. Prove the row's statement (the work); the ties are given (YtghgccgpgonlmaaDoorTie.lean); close each card by the builder's one call (the guide's Derived/Test/ToyasCard.lean, 'card_holds'). Laid BY PROGRAM, IN A SANDBOX (cutbox-door.mjs). By AI agents, Wed Nov 11 2026. No macro, syntax, notation, axiom, sorry.
-/
import Derived.Test.YtghgccgpgonlmaaDoorRows
import GoSem.ClaimSeven
namespace Go.Proofs.YtghgccgpgonlmaaDoor
namespace Rows

/-- THE TIED CARD OF 'moneyerlaw10.ModesSwaps'. -/
def modesSwapsCard : Claim7 := { stood := { row := modesSwapsRow, standIns := [], harness := (true, "0a413552986f469c9cd5592fd277cf1fe7eb6dfcbb872cb2e21a676e6db63e21"), looks := false }, kinds := [], alts := [], laidByText := true, laidKinds := [.data], laidTests := true, laidLooks := .later }
def ModesSwapsCardSaid : Prop := Claim7.holds Tryd.pinned (.plain (OpenSpec.ofChange modesSwapsSpec)) modesSwapsCard

/-- THE TIED CARD OF 'moneyerlaw10.ModesTight'. -/
def modesTightCard : Claim7 := { stood := { row := modesTightRow, standIns := [], harness := (true, "0a413552986f469c9cd5592fd277cf1fe7eb6dfcbb872cb2e21a676e6db63e21"), looks := false }, kinds := [], alts := [], laidByText := true, laidKinds := [.data], laidTests := true, laidLooks := .later }
def ModesTightCardSaid : Prop := Claim7.holds Tryd.pinned (.plain (OpenSpec.ofChange modesTightSpec)) modesTightCard

/-- THE SECOND FORM's CARD OF 'moneyerlaw10.ModesSwaps'. -/
def modesSwapsUptoCard : Claim7 := { stood := { row := modesSwapsUptoRow, standIns := [], harness := (true, "0a413552986f469c9cd5592fd277cf1fe7eb6dfcbb872cb2e21a676e6db63e21"), looks := false }, kinds := [], alts := [], laidByText := true, laidKinds := [.data], laidTests := true, laidLooks := .later }
def ModesSwapsUptoCardSaid : Prop := Claim7.holds Tryd.pinned (.plain (OpenSpec.upto modesSwapsSpec)) modesSwapsUptoCard

/-- THE SECOND FORM's CARD OF 'moneyerlaw10.ModesTight'. -/
def modesTightUptoCard : Claim7 := { stood := { row := modesTightUptoRow, standIns := [], harness := (true, "0a413552986f469c9cd5592fd277cf1fe7eb6dfcbb872cb2e21a676e6db63e21"), looks := false }, kinds := [], alts := [], laidByText := true, laidKinds := [.data], laidTests := true, laidLooks := .later }
def ModesTightUptoCardSaid : Prop := Claim7.holds Tryd.pinned (.plain (OpenSpec.upto modesTightSpec)) modesTightUptoCard
end Rows
end Go.Proofs.YtghgccgpgonlmaaDoor
