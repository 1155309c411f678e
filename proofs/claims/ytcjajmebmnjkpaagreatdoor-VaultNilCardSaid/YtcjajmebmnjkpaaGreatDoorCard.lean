/- What is proved: the tied card of VaultNil: called, it returns true. Conditions: none beyond the card's own: the listed package variables start as the program's text lays them. -/
import Derived.Test.YtcjajmebmnjkpaaGreatDoorRow
import Derived.Test.YtcjajmebmnjkpaaGreatDoorCards
import Derived.Test.YtcjajmebmnjkpaaGreatDoorTie
import Derived.SevenTiedAt
namespace Go.Proofs.YtcjajmebmnjkpaaGreatDoor
open Go
/-- where no function of the translation starts a goroutine, the row's cell is false -/
theorem goesBy_no {P : Program} {c : OpenClaim} (hs : c.start = .entering) (h : (P.funcs.toList.all fun fn => !fn.goes) = true) : false = c.goesBy P := by
  have hn : ∀ fn ∈ P.funcs, fn.goes = false := fun fn hm => by
    have := List.all_eq_true.1 h fn (Array.mem_toList_iff.2 hm)
    simpa using this
  have h1 : P.funcs.any Func.goes = false := by
    rw [Bool.eq_false_iff]
    intro hc
    obtain ⟨i, hi, hg⟩ := Array.any_eq_true.1 hc
    rw [hn _ (Array.getElem_mem hi)] at hg
    cases hg
  have h2 : ∀ g : FuncId, (P.funcs[g]?).any Func.goes = false := fun g => by
    cases hg : P.funcs[g]? with
    | none => rfl
    | some fn => exact hn fn (Array.mem_of_getElem? hg)
  have h3 : ∀ f : FuncId, P.goes f = false := fun f => by
    unfold Program.goes
    rw [h1, Bool.and_false, Bool.or_false, Bool.eq_false_iff]
    intro hc
    rw [List.any_eq_true] at hc
    obtain ⟨g, _, hg⟩ := hc
    rw [h2] at hg
    cases hg
  unfold OpenClaim.goesBy Program.goesAt Program.goesFrom
  rw [hs]
  cases P.funcNamed c.func with
  | none => rfl
  | some f => simp [h3]
set_option maxHeartbeats 0 in
theorem vaultNil_card_holds : Rows.VaultNilCardSaid :=
  Claim7.holds_tied_plain_at .later [] [.widerDeep] true (true, "d97836339706f6353ef24f3a8f4cacb2673557e46dab668828c84854684960fe") true
    law_row (fun _ h => by cases h) (by as_aux_lemma => kernel_rfl) (fun _ h => by cases h) vaultNil_row_tie rfl ⟨rfl, rfl⟩ (by as_aux_lemma => kernel_rfl) rfl
    (fun f fn hf hfn => by
      obtain rfl : f = 3 := Option.some.inj ((show Tryz.prog.funcNamed "warder/warderlaw20.VaultNil" = some 3 by kernel_rfl).symm.trans hf) |>.symm
      obtain rfl : fn = Tryz.f3 := (Option.some.inj (Tryz.func3.symm.trans hfn)).symm
      exact ⟨by as_aux_lemma => kernel_rfl, fun j t ht => by
        rw [Tryz.params3] at ht
        simp at ht⟩)
    (goesBy_no rfl (by as_aux_lemma => kernel_rfl))
end Go.Proofs.YtcjajmebmnjkpaaGreatDoor
