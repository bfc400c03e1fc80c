/-
  DERIVED. GIVEN WITH THE SEED: THE CARDS: each row of YtkkfabnehhamdaaDoorRows.lean that lists a variable, with what it lists TIED to the program's text (the seventh form; the later family's looks); each row that meets fmt, with fmt's text TOLD by the authors' own Lean function (tested against real Go, not proved from fmt's source: count such statements apart). THE CARD IS WHAT COUNTS. Prove the row's statement (the work); the ties are given (YtkkfabnehhamdaaDoorTie.lean); close each card by the builder's one call (the guide's Derived/Test/ToyasCard.lean, 'card_holds'). Laid BY PROGRAM, IN A SANDBOX (cutbox-door.mjs). By AI agents, Wed Nov 11 2026. No macro, syntax, notation, axiom, sorry.
-/
import Derived.Test.YtkkfabnehhamdaaDoorRows
import GoSem.ClaimSeven
namespace Go.Proofs.YtkkfabnehhamdaaDoor
namespace Rows

/-- THE TIED CARD OF 'moneyerlaw13.LocksApart'. -/
def locksApartCard : Claim7 := { stood := { row := locksApartRow, standIns := [], harness := (true, "afa08e3a70012431623c9a71605a78e8c2c0b16531a4e0613c5615329e824bde"), looks := false }, kinds := [], alts := [], laidByText := true, laidKinds := [.data], laidTests := true, laidLooks := .later }
def LocksApartCardSaid : Prop := Claim7.holds Tryd.pinned (.plain (OpenSpec.ofChange locksApartSpec)) locksApartCard

/-- THE TIED CARD OF 'moneyerlaw13.LocksSteps'. -/
def locksStepsCard : Claim7 := { stood := { row := locksStepsRow, standIns := [], harness := (true, "afa08e3a70012431623c9a71605a78e8c2c0b16531a4e0613c5615329e824bde"), looks := false }, kinds := [], alts := [], laidByText := true, laidKinds := [.data], laidTests := true, laidLooks := .later }
def LocksStepsCardSaid : Prop := Claim7.holds Tryd.pinned (.plain (OpenSpec.ofChange locksStepsSpec)) locksStepsCard

/-- THE TIED CARD OF 'moneyerlaw13.LocksEnd'. -/
def locksEndCard : Claim7 := { stood := { row := locksEndRow, standIns := [], harness := (true, "afa08e3a70012431623c9a71605a78e8c2c0b16531a4e0613c5615329e824bde"), looks := false }, kinds := [], alts := [], laidByText := true, laidKinds := [.data], laidTests := true, laidLooks := .later }
def LocksEndCardSaid : Prop := Claim7.holds Tryd.pinned (.plain (OpenSpec.ofChange locksEndSpec)) locksEndCard

/-- THE SECOND FORM's CARD OF 'moneyerlaw13.LocksApart'. -/
def locksApartUptoCard : Claim7 := { stood := { row := locksApartUptoRow, standIns := [], harness := (true, "afa08e3a70012431623c9a71605a78e8c2c0b16531a4e0613c5615329e824bde"), looks := false }, kinds := [], alts := [], laidByText := true, laidKinds := [.data], laidTests := true, laidLooks := .later }
def LocksApartUptoCardSaid : Prop := Claim7.holds Tryd.pinned (.plain (OpenSpec.upto locksApartSpec)) locksApartUptoCard

/-- THE SECOND FORM's CARD OF 'moneyerlaw13.LocksSteps'. -/
def locksStepsUptoCard : Claim7 := { stood := { row := locksStepsUptoRow, standIns := [], harness := (true, "afa08e3a70012431623c9a71605a78e8c2c0b16531a4e0613c5615329e824bde"), looks := false }, kinds := [], alts := [], laidByText := true, laidKinds := [.data], laidTests := true, laidLooks := .later }
def LocksStepsUptoCardSaid : Prop := Claim7.holds Tryd.pinned (.plain (OpenSpec.upto locksStepsSpec)) locksStepsUptoCard

/-- THE SECOND FORM's CARD OF 'moneyerlaw13.LocksEnd'. -/
def locksEndUptoCard : Claim7 := { stood := { row := locksEndUptoRow, standIns := [], harness := (true, "afa08e3a70012431623c9a71605a78e8c2c0b16531a4e0613c5615329e824bde"), looks := false }, kinds := [], alts := [], laidByText := true, laidKinds := [.data], laidTests := true, laidLooks := .later }
def LocksEndUptoCardSaid : Prop := Claim7.holds Tryd.pinned (.plain (OpenSpec.upto locksEndSpec)) locksEndUptoCard
end Rows
end Go.Proofs.YtkkfabnehhamdaaDoor
