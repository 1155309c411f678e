/- LinearOrders shows who stands ahead of whom, which histories may be, and those that were answered by their ends: the tied card of the row. -/
import Derived.Test.YtcibmhncdgoemaaGreatDoorLoRow
import Derived.Test.YtcibmhncdgoemaaGreatDoorCards
import Derived.Test.YtcibmhncdgoemaaGreatDoorTie
import Derived.SevenTiedAt
set_option linter.unusedVariables false
set_option linter.unusedSimpArgs false
set_option linter.unusedSectionVars false
namespace Go.Proofs.YtcibmhncdgoemaaGreatDoor
open Go
theorem linearOrders_card_holds : Rows.LinearOrdersCardSaid :=
  Claim7.holds_tied_plain_at .later [] [.data, .data, .data, .widerDeep] true (true, "a2b6e00b13184536e662b4eff3923f08ce1ad37d532ce2e86c079a9ccb6cca69") true
    linearOrders_row (fun _ h => by cases h) (by kernel_rfl) (fun _ h => by cases h) linearOrders_row_tie rfl ⟨rfl, rfl⟩ (by kernel_rfl) rfl
    (fun f fn hf hfn => by
      obtain rfl : f = 3 := Option.some.inj ((show Tryz.prog.funcNamed "warder/warderlaw27.LinearOrders" = some 3 by kernel_rfl).symm.trans hf) |>.symm
      obtain rfl : fn = Tryz.f3 := (Option.some.inj (Tryz.func3.symm.trans hfn)).symm
      exact ⟨by kernel_rfl, fun j t ht => by
        rw [Tryz.params3] at ht
        have h3 : t = 22 ∨ t = 23 := by
          rcases j with _ | _ | j
          · left; simpa using ht.symm
          · right; simpa using ht.symm
          · simp at ht
        rcases h3 with rfl | rfl
        · exact (show Tryz.prog.wantsStandIn 22 = false by kernel_rfl)
        · exact (show Tryz.prog.wantsStandIn 23 = false by kernel_rfl)⟩)
    (by kernel_rfl)
#print axioms linearOrders_card_holds
end Go.Proofs.YtcibmhncdgoemaaGreatDoor
