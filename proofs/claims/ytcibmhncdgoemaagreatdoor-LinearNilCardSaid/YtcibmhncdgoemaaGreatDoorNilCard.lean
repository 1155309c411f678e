/- What is proved: the tied card of LinearNil: called, it returns true. Conditions: none beyond the card's own: the four listed package variables start as the program's text lays them. -/
import Derived.Test.YtcibmhncdgoemaaGreatDoorNilRow
import Derived.Test.YtcibmhncdgoemaaGreatDoorCards
import Derived.Test.YtcibmhncdgoemaaGreatDoorTie
import Derived.SevenTiedAt
set_option linter.unusedVariables false
set_option linter.unusedSimpArgs false
set_option linter.unusedSectionVars false
namespace Go.Proofs.YtcibmhncdgoemaaGreatDoor
open Go
theorem linearNil_card_holds : Rows.LinearNilCardSaid :=
  Claim7.holds_tied_plain_at .later [] [.data, .data, .data, .widerDeep] true (true, "a2b6e00b13184536e662b4eff3923f08ce1ad37d532ce2e86c079a9ccb6cca69") true
    linearNil_row (fun _ h => by cases h) (by kernel_rfl) (fun _ h => by cases h) linearNil_row_tie rfl ⟨rfl, rfl⟩ (by kernel_rfl) rfl
    (fun f fn hf hfn => by
      obtain rfl : f = 5 := Option.some.inj ((show Tryz.prog.funcNamed "warder/warderlaw27.LinearNil" = some 5 by kernel_rfl).symm.trans hf) |>.symm
      obtain rfl : fn = Tryz.f5 := (Option.some.inj (Tryz.func5.symm.trans hfn)).symm
      exact ⟨by kernel_rfl, fun j t ht => by
        rw [Tryz.params5] at ht
        simp at ht⟩)
    (by kernel_rfl)
end Go.Proofs.YtcibmhncdgoemaaGreatDoor
