/-
  DERIVED. GIVEN WITH THE SEED: THE CARDS: each row of YtdceppjoipoohaaDoorRows.lean that lists a variable, with what it lists TIED to the program's text (the seventh form; the later family's looks); each row that meets fmt, with fmt's text TOLD by the authors' own Lean function (tested against real Go, not proved from fmt's source: count such statements apart). THE CARD IS WHAT COUNTS. Prove the row's statement (the work); the ties are given (YtdceppjoipoohaaDoorTie.lean); close each card by the builder's one call (the guide's Derived/Test/ToyasCard.lean, 'card_holds'). Laid BY PROGRAM, IN A SANDBOX (cutbox-door.mjs). By AI agents, Wed Nov 11 2026. No macro, syntax, notation, axiom, sorry.
-/
import Derived.Test.YtdceppjoipoohaaDoorRows
import GoSem.ClaimSeven
namespace Go.Proofs.YtdceppjoipoohaaDoor
namespace Rows

/-- THE TIED CARD OF 'burrowlaw13.ConfigAddresses'. -/
def configAddressesCard : Claim7 := { stood := { row := configAddressesRow, standIns := [], harness := (true, "85cc27b41c328b2ecffe75decd26d14b5e3ca141174d8c43e84bb759d64e7993"), looks := false }, kinds := [], alts := [], laidByText := true, laidKinds := [.data, .data, .data, .data, .pinned], laidTests := true, laidLooks := .later }
def ConfigAddressesCardSaid : Prop := Claim7.holds Tryd.pinned (.plain (OpenSpec.ofChange configAddressesSpec)) configAddressesCard

/-- THE TIED CARD OF 'burrowlaw13.ConfigAddressesReturn'. -/
def configAddressesReturnCard : Claim7 := { stood := { row := configAddressesReturnRow, standIns := [], harness := (true, "85cc27b41c328b2ecffe75decd26d14b5e3ca141174d8c43e84bb759d64e7993"), looks := false }, kinds := [], alts := [], laidByText := true, laidKinds := [.data, .data, .data, .data, .pinned], laidTests := true, laidLooks := .later }
def ConfigAddressesReturnCardSaid : Prop := Claim7.holds Tryd.pinned (.plain (OpenSpec.ofChange configAddressesReturnSpec)) configAddressesReturnCard

/-- THE TIED CARD OF 'burrowlaw13.ConfigValidates'. -/
def configValidatesCard : Claim7 := { stood := { row := configValidatesRow, standIns := [], harness := (true, "85cc27b41c328b2ecffe75decd26d14b5e3ca141174d8c43e84bb759d64e7993"), looks := false }, kinds := [], alts := [], laidByText := true, laidKinds := [.data, .data, .data, .data, .pinned], laidTests := true, laidLooks := .later }
def ConfigValidatesCardSaid : Prop := Claim7.holds Tryd.pinned (.plain (OpenSpec.ofChange configValidatesSpec)) configValidatesCard

/-- THE SECOND FORM's CARD OF 'burrowlaw13.ConfigAddresses'. -/
def configAddressesUptoCard : Claim7 := { stood := { row := configAddressesUptoRow, standIns := [], harness := (true, "85cc27b41c328b2ecffe75decd26d14b5e3ca141174d8c43e84bb759d64e7993"), looks := false }, kinds := [], alts := [], laidByText := true, laidKinds := [.data, .data, .data, .data, .pinned], laidTests := true, laidLooks := .later }
def ConfigAddressesUptoCardSaid : Prop := Claim7.holds Tryd.pinned (.plain (OpenSpec.upto configAddressesSpec)) configAddressesUptoCard

/-- THE SECOND FORM's CARD OF 'burrowlaw13.ConfigAddressesReturn'. -/
def configAddressesReturnUptoCard : Claim7 := { stood := { row := configAddressesReturnUptoRow, standIns := [], harness := (true, "85cc27b41c328b2ecffe75decd26d14b5e3ca141174d8c43e84bb759d64e7993"), looks := false }, kinds := [], alts := [], laidByText := true, laidKinds := [.data, .data, .data, .data, .pinned], laidTests := true, laidLooks := .later }
def ConfigAddressesReturnUptoCardSaid : Prop := Claim7.holds Tryd.pinned (.plain (OpenSpec.upto configAddressesReturnSpec)) configAddressesReturnUptoCard

/-- THE SECOND FORM's CARD OF 'burrowlaw13.ConfigValidates'. -/
def configValidatesUptoCard : Claim7 := { stood := { row := configValidatesUptoRow, standIns := [], harness := (true, "85cc27b41c328b2ecffe75decd26d14b5e3ca141174d8c43e84bb759d64e7993"), looks := false }, kinds := [], alts := [], laidByText := true, laidKinds := [.data, .data, .data, .data, .pinned], laidTests := true, laidLooks := .later }
def ConfigValidatesUptoCardSaid : Prop := Claim7.holds Tryd.pinned (.plain (OpenSpec.upto configValidatesSpec)) configValidatesUptoCard
end Rows
end Go.Proofs.YtdceppjoipoohaaDoor
