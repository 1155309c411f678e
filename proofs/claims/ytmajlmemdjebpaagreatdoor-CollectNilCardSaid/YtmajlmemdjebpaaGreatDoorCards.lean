/-
  DERIVED. GIVEN WITH THE SEED: THE CARDS: each row of YtmajlmemdjebpaaGreatDoorRows.lean that lists a variable, with what it lists TIED to the program's text (the seventh form; the later family's looks); each row that meets fmt, with fmt's text TOLD by the authors' own Lean function (tested against real Go, not proved from fmt's source: count such statements apart). THE CARD IS WHAT COUNTS. Prove the row's statement (the work); the ties are given (YtmajlmemdjebpaaGreatDoorTie.lean); close each card by the builder's one call (the guide's Derived/Test/ToyasCard.lean, 'card_holds'). Laid BY PROGRAM, IN A SANDBOX (cutbox-door.mjs). By AI agents, Wed Nov 11 2026. No macro, syntax, notation, axiom, sorry.
-/
import Derived.Test.YtmajlmemdjebpaaGreatDoorRows
import GoSem.ClaimSeven
namespace Go.Proofs.YtmajlmemdjebpaaGreatDoor
namespace Rows

/-- THE TIED CARD OF 'warderlaw24.CollectNil'. -/
def collectNilCard : Claim7 := { stood := { row := collectNilRow, standIns := [], harness := (true, "75612d2223c7aaa9763e4da252578464185d28fc5f3146c492ecca0cd8214ed9"), looks := true }, kinds := [], alts := [], laidByText := true, laidKinds := [.widerDeep], laidTests := true, laidLooks := .later }
def CollectNilCardSaid : Prop := Claim7.holds Tryz.pinned (.plain (OpenSpec.ofChange collectNilSpec)) collectNilCard

/-- THE SECOND FORM's CARD OF 'warderlaw24.CollectNil'. -/
def collectNilUptoCard : Claim7 := { stood := { row := collectNilUptoRow, standIns := [], harness := (true, "75612d2223c7aaa9763e4da252578464185d28fc5f3146c492ecca0cd8214ed9"), looks := true }, kinds := [], alts := [], laidByText := true, laidKinds := [.widerDeep], laidTests := true, laidLooks := .later }
def CollectNilUptoCardSaid : Prop := Claim7.holds Tryz.pinned (.plain (OpenSpec.upto collectNilSpec)) collectNilUptoCard
end Rows
end Go.Proofs.YtmajlmemdjebpaaGreatDoor
