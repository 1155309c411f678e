/-
  DERIVED. GIVEN WITH THE SEED: THE CARDS: each row of YtpmddbaiedhcgaaGreatDoorRows.lean that lists a variable, with what it lists TIED to the program's text (the seventh form; the later family's looks); each row that meets fmt, with fmt's text TOLD by the authors' own Lean function (tested against real Go, not proved from fmt's source: count such statements apart). THE CARD IS WHAT COUNTS. Prove the row's statement (the work); the ties are given (YtpmddbaiedhcgaaGreatDoorTie.lean); close each card by the builder's one call (the guide's Derived/Test/ToyasCard.lean, 'card_holds'). Laid BY PROGRAM, IN A SANDBOX (cutbox-door.mjs). By AI agents, Wed Nov 11 2026. No macro, syntax, notation, axiom, sorry.
-/
import Derived.Test.YtpmddbaiedhcgaaGreatDoorRows
import GoSem.ClaimSeven
namespace Go.Proofs.YtpmddbaiedhcgaaGreatDoor
namespace Rows

/-- THE TIED CARD OF 'warderlaw22.SearchNil'. -/
def searchNilCard : Claim7 := { stood := { row := searchNilRow, standIns := [], harness := (true, "0ce1bc79803c457d476f0a55de4164bf1ba764172ff3fd3f6a1b0410fe189020"), looks := false }, kinds := [], alts := [], laidByText := true, laidKinds := [.widerDeep], laidTests := true, laidLooks := .later }
def SearchNilCardSaid : Prop := Claim7.holds Tryz.pinned (.plain (OpenSpec.ofChange searchNilSpec)) searchNilCard

/-- THE SECOND FORM's CARD OF 'warderlaw22.SearchNil'. -/
def searchNilUptoCard : Claim7 := { stood := { row := searchNilUptoRow, standIns := [], harness := (true, "0ce1bc79803c457d476f0a55de4164bf1ba764172ff3fd3f6a1b0410fe189020"), looks := false }, kinds := [], alts := [], laidByText := true, laidKinds := [.widerDeep], laidTests := true, laidLooks := .later }
def SearchNilUptoCardSaid : Prop := Claim7.holds Tryz.pinned (.plain (OpenSpec.upto searchNilSpec)) searchNilUptoCard
end Rows
end Go.Proofs.YtpmddbaiedhcgaaGreatDoor
