/-
  DERIVED. GIVEN WITH THE SEED: THE CARDS: each row of YtpbiidpdookbpaaGreatDoorRows.lean that lists a variable, with what it lists TIED to the program's text (the seventh form; the later family's looks); each row that meets fmt, with fmt's text TOLD by the authors' own Lean function (tested against real Go, not proved from fmt's source: count such statements apart). THE CARD IS WHAT COUNTS. Prove the row's statement (the work); the ties are given (YtpbiidpdookbpaaGreatDoorTie.lean); close each card by the builder's one call (the guide's Derived/Test/ToyasCard.lean, 'card_holds'). Laid BY PROGRAM, IN A SANDBOX (cutbox-door.mjs). By AI agents, Wed Nov 11 2026. No macro, syntax, notation, axiom, sorry.
-/
import Derived.Test.YtpbiidpdookbpaaGreatDoorRows
import GoSem.ClaimSeven
namespace Go.Proofs.YtpbiidpdookbpaaGreatDoor
namespace Rows

/-- THE TIED CARD OF 'warderlaw23.CallNil'. -/
def callNilCard : Claim7 := { stood := { row := callNilRow, standIns := [], harness := (true, "cbc028ff3b74bfce57293b315346fae7a180ade82312db508dbc2e7d4bd0743a"), looks := true }, kinds := [], alts := [], laidByText := true, laidKinds := [.data, .data, .data, .widerDeep], laidTests := true, laidLooks := .later }
def CallNilCardSaid : Prop := Claim7.holds Tryz.pinned (.plain (OpenSpec.ofChange callNilSpec)) callNilCard

/-- THE SECOND FORM's CARD OF 'warderlaw23.CallNil'. -/
def callNilUptoCard : Claim7 := { stood := { row := callNilUptoRow, standIns := [], harness := (true, "cbc028ff3b74bfce57293b315346fae7a180ade82312db508dbc2e7d4bd0743a"), looks := true }, kinds := [], alts := [], laidByText := true, laidKinds := [.data, .data, .data, .widerDeep], laidTests := true, laidLooks := .later }
def CallNilUptoCardSaid : Prop := Claim7.holds Tryz.pinned (.plain (OpenSpec.upto callNilSpec)) callNilUptoCard
end Rows
end Go.Proofs.YtpbiidpdookbpaaGreatDoor
