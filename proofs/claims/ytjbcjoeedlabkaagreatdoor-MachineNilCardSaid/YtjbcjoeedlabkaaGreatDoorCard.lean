/- What is proved: the tied card of MachineNil: called, it returns true. Conditions: none beyond the card's own: the listed package variables start as the program's text lays them. -/
import Derived.Test.YtjbcjoeedlabkaaGreatDoorRow
import Derived.Test.YtjbcjoeedlabkaaGreatDoorCards
import Derived.Test.YtjbcjoeedlabkaaGreatDoorTie
import Derived.SevenTiedAt
namespace Go.Proofs.YtjbcjoeedlabkaaGreatDoor
open Go Go.Abs
set_option maxHeartbeats 0 in
theorem machineNil_card_holds : Rows.MachineNilCardSaid :=
  Claim7.holds_tied_plain_at .later [] [.data, .data, .data, .widerDeep] true (true, "c980040e3d2e3a31c69c973a5b7aea5334c68cdb3ef82249aa488930d6f3847c") true
    law_row (fun _ h => by cases h) (by as_aux_lemma => kernel_rfl) (fun _ h => by cases h) machineNil_row_tie rfl ⟨rfl, rfl⟩ (by as_aux_lemma => kernel_rfl) rfl
    (fun f fn hf hfn => by
      obtain rfl : f = 3 := Option.some.inj ((show Tryz.prog.funcNamed "warder/warderlaw25.MachineNil" = some 3 by kernel_rfl).symm.trans hf) |>.symm
      obtain rfl : fn = Tryz.f3 := (Option.some.inj (Tryz.func3.symm.trans hfn)).symm
      exact ⟨by as_aux_lemma => kernel_rfl, fun j t ht => by
        rw [Tryz.params3] at ht
        simp at ht⟩)
    (goesBy_no rfl (by as_aux_lemma => kernel_rfl))
end Go.Proofs.YtjbcjoeedlabkaaGreatDoor
