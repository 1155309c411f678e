/- The run of SearchNil, its last part, and the whole: it comes to true. -/
import Derived.Test.YtpmddbaiedhcgaaGreatDoorRun1
set_option linter.unusedVariables false
set_option linter.unusedSimpArgs false
set_option linter.unusedSectionVars false
namespace Go.Proofs.YtpmddbaiedhcgaaGreatDoor
open Go Go.Abs
set_option maxRecDepth 1000000
theorem law_last : endsTrue (Gorun 1000000 AP lowL state1) = true := by kernel_rfl
theorem law_ends : EndsTrue Tryz.prog lowL ⟨frameOf 3, [], ⟨.leaf, posOf 32⟩⟩ := by
  have h1 : EndsTrue Tryz.prog lowL state1 := by
    obtain ⟨hp, h⟩ := endsTrue_some law_last
    rw [Gorun_eq] at h
    exact EndsTrue.of_run AP_ok h
  have h0 : EndsTrue Tryz.prog lowL state0 := EndsTrue.of_part AP_ok low_at (by rw [← Fpart_eq]; exact part1) h1
  have e : state0 = ⟨frameOf 3, [], ⟨.leaf, posOf 32⟩⟩ := by unfold state0; rw [FposOf_eq]
  rw [e] at h0
  exact h0
end Go.Proofs.YtpmddbaiedhcgaaGreatDoor
