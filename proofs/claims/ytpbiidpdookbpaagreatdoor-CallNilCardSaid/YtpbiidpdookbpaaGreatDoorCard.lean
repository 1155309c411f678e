/- What is proved: the tied card of CallNil: called, it returns true. Conditions: none beyond the card's own: the listed package variables start as the program's text lays them. -/
import Derived.Test.YtpbiidpdookbpaaGreatDoorRow
import Derived.Test.YtpbiidpdookbpaaGreatDoorCards
import Derived.Test.YtpbiidpdookbpaaGreatDoorTie
import Derived.SevenTiedAt
namespace Go.Proofs.YtpbiidpdookbpaaGreatDoor
open Go Go.Abs
set_option maxHeartbeats 0 in
theorem callNil_card_holds : Rows.CallNilCardSaid :=
  Claim7.holds_tied_plain_at .later [] [.data, .data, .data, .widerDeep] true (true, "cbc028ff3b74bfce57293b315346fae7a180ade82312db508dbc2e7d4bd0743a") true
    law_row (fun _ h => by cases h) (by as_aux_lemma => kernel_rfl) (fun _ h => by cases h) callNil_row_tie rfl ⟨rfl, rfl⟩ (by as_aux_lemma => kernel_rfl) rfl
    (fun f fn hf hfn => by
      obtain rfl : f = 3 := Option.some.inj ((show Tryz.prog.funcNamed "warder/warderlaw23.CallNil" = some 3 by kernel_rfl).symm.trans hf) |>.symm
      obtain rfl : fn = Tryz.f3 := (Option.some.inj (Tryz.func3.symm.trans hfn)).symm
      exact ⟨by as_aux_lemma => kernel_rfl, fun j t ht => by
        rw [Tryz.params3] at ht
        simp at ht⟩)
    (goesBy_no rfl (by as_aux_lemma => kernel_rfl))
end Go.Proofs.YtpbiidpdookbpaaGreatDoor
