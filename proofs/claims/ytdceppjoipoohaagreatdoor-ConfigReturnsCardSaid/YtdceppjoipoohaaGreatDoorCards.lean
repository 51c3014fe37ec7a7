/-
  DERIVED. GIVEN WITH THE SEED: THE CARDS: each row of YtdceppjoipoohaaGreatDoorRows.lean that lists a variable, with what it lists TIED to the program's text (the seventh form; the later family's looks); each row that meets fmt, with fmt's text TOLD by the authors' own Lean function (tested against real Go, not proved from fmt's source: count such statements apart). THE CARD IS WHAT COUNTS. Prove the row's statement (the work); the ties are given (YtdceppjoipoohaaGreatDoorTie.lean); close each card by the builder's one call (the guide's Derived/Test/ToyasCard.lean, 'card_holds'). Laid BY PROGRAM, IN A SANDBOX (cutbox-door.mjs). By AI agents, Wed Nov 11 2026. No macro, syntax, notation, axiom, sorry.
-/
import Derived.Test.YtdceppjoipoohaaGreatDoorRows
import GoSem.ClaimSeven
namespace Go.Proofs.YtdceppjoipoohaaGreatDoor
namespace Rows

/-- THE TIED CARD OF 'burrowlaw13.ConfigLimits'. -/
def configLimitsCard : Claim7 := { stood := { row := configLimitsRow, standIns := [], harness := (true, "c4dec757975c607926fa2b7d9b4770288632a37260e9e02bbc9aa0cd1271272d"), looks := true }, kinds := [], alts := [], laidByText := true, laidKinds := [.data, .data, .data, .data, .pinned], laidTests := true, laidLooks := .later }
def ConfigLimitsCardSaid : Prop := Claim7.holds Tryz.pinned (.plain (OpenSpec.ofChange configLimitsSpec)) configLimitsCard

/-- THE TIED CARD OF 'burrowlaw13.ConfigReturns'. -/
def configReturnsCard : Claim7 := { stood := { row := configReturnsRow, standIns := [], harness := (true, "c4dec757975c607926fa2b7d9b4770288632a37260e9e02bbc9aa0cd1271272d"), looks := true }, kinds := [], alts := [], laidByText := true, laidKinds := [.data, .data, .data, .data, .pinned], laidTests := true, laidLooks := .later }
def ConfigReturnsCardSaid : Prop := Claim7.holds Tryz.pinned (.plain (OpenSpec.ofChange configReturnsSpec)) configReturnsCard

/-- THE SECOND FORM's CARD OF 'burrowlaw13.ConfigLimits'. -/
def configLimitsUptoCard : Claim7 := { stood := { row := configLimitsUptoRow, standIns := [], harness := (true, "c4dec757975c607926fa2b7d9b4770288632a37260e9e02bbc9aa0cd1271272d"), looks := true }, kinds := [], alts := [], laidByText := true, laidKinds := [.data, .data, .data, .data, .pinned], laidTests := true, laidLooks := .later }
def ConfigLimitsUptoCardSaid : Prop := Claim7.holds Tryz.pinned (.plain (OpenSpec.upto configLimitsSpec)) configLimitsUptoCard

/-- THE SECOND FORM's CARD OF 'burrowlaw13.ConfigReturns'. -/
def configReturnsUptoCard : Claim7 := { stood := { row := configReturnsUptoRow, standIns := [], harness := (true, "c4dec757975c607926fa2b7d9b4770288632a37260e9e02bbc9aa0cd1271272d"), looks := true }, kinds := [], alts := [], laidByText := true, laidKinds := [.data, .data, .data, .data, .pinned], laidTests := true, laidLooks := .later }
def ConfigReturnsUptoCardSaid : Prop := Claim7.holds Tryz.pinned (.plain (OpenSpec.upto configReturnsSpec)) configReturnsUptoCard
end Rows
end Go.Proofs.YtdceppjoipoohaaGreatDoor
