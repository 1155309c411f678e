/- What is proved: the tied card of CollectNil: called, it returns true. Conditions: none beyond the card's own: the listed package variables start as the program's text lays them. -/
import Derived.Test.YtmajlmemdjebpaaGreatDoorRow
import Derived.Test.YtmajlmemdjebpaaGreatDoorCards
import Derived.Test.YtmajlmemdjebpaaGreatDoorTie
import Derived.SevenTiedAt
namespace Go.Proofs.YtmajlmemdjebpaaGreatDoor
open Go
set_option maxHeartbeats 0 in
theorem collectNil_card_holds : Rows.CollectNilCardSaid :=
  Claim7.holds_tied_plain_at .later [] [.widerDeep] true (true, "75612d2223c7aaa9763e4da252578464185d28fc5f3146c492ecca0cd8214ed9") true
    law_row (fun _ h => by cases h) (by as_aux_lemma => kernel_rfl) (fun _ h => by cases h) collectNil_row_tie rfl ⟨rfl, rfl⟩ (by as_aux_lemma => kernel_rfl) rfl
    (fun f fn hf hfn => by
      obtain rfl : f = 3 := Option.some.inj ((show Tryz.prog.funcNamed "warder/warderlaw24.CollectNil" = some 3 by kernel_rfl).symm.trans hf) |>.symm
      obtain rfl : fn = Tryz.f3 := (Option.some.inj (Tryz.func3.symm.trans hfn)).symm
      exact ⟨by as_aux_lemma => kernel_rfl, fun j t ht => by
        rw [Tryz.params3] at ht
        simp at ht⟩)
    (by as_aux_lemma => kernel_rfl)
end Go.Proofs.YtmajlmemdjebpaaGreatDoor
