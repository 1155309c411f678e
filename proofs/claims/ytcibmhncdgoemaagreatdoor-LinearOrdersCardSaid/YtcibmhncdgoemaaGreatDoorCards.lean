/-
  DERIVED. GIVEN WITH THE SEED: THE CARDS: each row of YtcibmhncdgoemaaGreatDoorRows.lean that lists a variable, with what it lists TIED to the program's text (the seventh form; the later family's looks); each row that meets fmt, with fmt's text TOLD by the authors' own Lean function (tested against real Go, not proved from fmt's source: count such statements apart). THE CARD IS WHAT COUNTS. Prove the row's statement (the work); the ties are given (YtcibmhncdgoemaaGreatDoorTie.lean); close each card by the builder's one call (the guide's Derived/Test/ToyasCard.lean, 'card_holds'). Laid BY PROGRAM, IN A SANDBOX (cutbox-door.mjs). By AI agents, Wed Nov 11 2026. No macro, syntax, notation, axiom, sorry.
-/
import Derived.Test.YtcibmhncdgoemaaGreatDoorRows
import GoSem.ClaimSeven
namespace Go.Proofs.YtcibmhncdgoemaaGreatDoor
namespace Rows

/-- THE TIED CARD OF 'warderlaw27.LinearOrders'. -/
def linearOrdersCard : Claim7 := { stood := { row := linearOrdersRow, standIns := [], harness := (true, "a2b6e00b13184536e662b4eff3923f08ce1ad37d532ce2e86c079a9ccb6cca69"), looks := true }, kinds := [], alts := [], laidByText := true, laidKinds := [.data, .data, .data, .widerDeep], laidTests := true, laidLooks := .later }
def LinearOrdersCardSaid : Prop := Claim7.holds Tryz.pinned (.plain (OpenSpec.ofChange linearOrdersSpec)) linearOrdersCard

/-- THE TIED CARD OF 'warderlaw27.LinearTexts'. -/
def linearTextsCard : Claim7 := { stood := { row := linearTextsRow, standIns := [], harness := (true, "a2b6e00b13184536e662b4eff3923f08ce1ad37d532ce2e86c079a9ccb6cca69"), looks := true }, kinds := [], alts := [], laidByText := true, laidKinds := [.data, .data, .data, .widerDeep], laidTests := true, laidLooks := .later }
def LinearTextsCardSaid : Prop := Claim7.holds Tryz.pinned (.plain (OpenSpec.ofChange linearTextsSpec)) linearTextsCard

/-- THE TIED CARD OF 'warderlaw27.LinearNil'. -/
def linearNilCard : Claim7 := { stood := { row := linearNilRow, standIns := [], harness := (true, "a2b6e00b13184536e662b4eff3923f08ce1ad37d532ce2e86c079a9ccb6cca69"), looks := true }, kinds := [], alts := [], laidByText := true, laidKinds := [.data, .data, .data, .widerDeep], laidTests := true, laidLooks := .later }
def LinearNilCardSaid : Prop := Claim7.holds Tryz.pinned (.plain (OpenSpec.ofChange linearNilSpec)) linearNilCard

/-- THE SECOND FORM's CARD OF 'warderlaw27.LinearOrders'. -/
def linearOrdersUptoCard : Claim7 := { stood := { row := linearOrdersUptoRow, standIns := [], harness := (true, "a2b6e00b13184536e662b4eff3923f08ce1ad37d532ce2e86c079a9ccb6cca69"), looks := true }, kinds := [], alts := [], laidByText := true, laidKinds := [.data, .data, .data, .widerDeep], laidTests := true, laidLooks := .later }
def LinearOrdersUptoCardSaid : Prop := Claim7.holds Tryz.pinned (.plain (OpenSpec.upto linearOrdersSpec)) linearOrdersUptoCard

/-- THE SECOND FORM's CARD OF 'warderlaw27.LinearTexts'. -/
def linearTextsUptoCard : Claim7 := { stood := { row := linearTextsUptoRow, standIns := [], harness := (true, "a2b6e00b13184536e662b4eff3923f08ce1ad37d532ce2e86c079a9ccb6cca69"), looks := true }, kinds := [], alts := [], laidByText := true, laidKinds := [.data, .data, .data, .widerDeep], laidTests := true, laidLooks := .later }
def LinearTextsUptoCardSaid : Prop := Claim7.holds Tryz.pinned (.plain (OpenSpec.upto linearTextsSpec)) linearTextsUptoCard

/-- THE SECOND FORM's CARD OF 'warderlaw27.LinearNil'. -/
def linearNilUptoCard : Claim7 := { stood := { row := linearNilUptoRow, standIns := [], harness := (true, "a2b6e00b13184536e662b4eff3923f08ce1ad37d532ce2e86c079a9ccb6cca69"), looks := true }, kinds := [], alts := [], laidByText := true, laidKinds := [.data, .data, .data, .widerDeep], laidTests := true, laidLooks := .later }
def LinearNilUptoCardSaid : Prop := Claim7.holds Tryz.pinned (.plain (OpenSpec.upto linearNilSpec)) linearNilUptoCard
end Rows
end Go.Proofs.YtcibmhncdgoemaaGreatDoor
