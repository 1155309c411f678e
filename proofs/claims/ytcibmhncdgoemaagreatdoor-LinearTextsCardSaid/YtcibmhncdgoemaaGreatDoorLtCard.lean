/- LinearTexts shows what became of a request, as a text: the tied card of the row. -/
import Derived.Test.YtcibmhncdgoemaaGreatDoorLtRow
import Derived.Test.YtcibmhncdgoemaaGreatDoorCards
import Derived.Test.YtcibmhncdgoemaaGreatDoorTie
import Derived.SevenTiedAt
set_option linter.unusedVariables false
set_option linter.unusedSimpArgs false
set_option linter.unusedSectionVars false
namespace Go.Proofs.YtcibmhncdgoemaaGreatDoor
open Go
theorem linearTexts_card_holds : Rows.LinearTextsCardSaid :=
  Claim7.holds_tied_plain_at .later [] [.data, .data, .data, .widerDeep] true (true, "a2b6e00b13184536e662b4eff3923f08ce1ad37d532ce2e86c079a9ccb6cca69") true
    linearTexts_row (fun _ h => by cases h) (by kernel_rfl) (fun _ h => by cases h) linearTexts_row_tie rfl ⟨rfl, rfl⟩ (by kernel_rfl) rfl
    (fun f fn hf hfn => by
      obtain rfl : f = 4 := Option.some.inj ((show Tryz.prog.funcNamed "warder/warderlaw27.LinearTexts" = some 4 by kernel_rfl).symm.trans hf) |>.symm
      obtain rfl : fn = Tryz.f4 := (Option.some.inj (Tryz.func4.symm.trans hfn)).symm
      exact ⟨by kernel_rfl, fun j t ht => by
        rw [Tryz.params4] at ht
        have h3 : t = 31 := by
          rcases j with _ | j
          · simpa using ht.symm
          · simp at ht
        subst h3
        exact (show Tryz.prog.wantsStandIn 31 = false by kernel_rfl)⟩)
    (by kernel_rfl)
#print axioms linearTexts_card_holds
end Go.Proofs.YtcibmhncdgoemaaGreatDoor
