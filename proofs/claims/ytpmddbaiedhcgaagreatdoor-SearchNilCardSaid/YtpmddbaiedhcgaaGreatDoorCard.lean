/- What is proved: the tied card of SearchNil: called, it returns true. Conditions: none beyond the card's own: the listed package variables start as the program's text lays them. -/
import Derived.Test.YtpmddbaiedhcgaaGreatDoorRow
import Derived.Test.YtpmddbaiedhcgaaGreatDoorCards
import Derived.Test.YtpmddbaiedhcgaaGreatDoorTie
import Derived.SevenTiedAt
namespace Go.Proofs.YtpmddbaiedhcgaaGreatDoor
open Go
set_option maxHeartbeats 0 in
theorem searchNil_card_holds : Rows.SearchNilCardSaid :=
  Claim7.holds_tied_plain_at .later [] [.widerDeep] true (true, "0ce1bc79803c457d476f0a55de4164bf1ba764172ff3fd3f6a1b0410fe189020") false
    law_row (fun _ h => by cases h) (by as_aux_lemma => kernel_rfl) (fun _ h => by cases h) searchNil_row_tie rfl ⟨rfl, rfl⟩ (by as_aux_lemma => kernel_rfl) rfl
    (fun f fn hf hfn => by
      obtain rfl : f = 3 := Option.some.inj ((show Tryz.prog.funcNamed "warder/warderlaw22.SearchNil" = some 3 by kernel_rfl).symm.trans hf) |>.symm
      obtain rfl : fn = Tryz.f3 := (Option.some.inj (Tryz.func3.symm.trans hfn)).symm
      exact ⟨by as_aux_lemma => kernel_rfl, fun j t ht => by
        rw [Tryz.params3] at ht
        simp at ht⟩)
    (by as_aux_lemma => kernel_rfl)
end Go.Proofs.YtpmddbaiedhcgaaGreatDoor
