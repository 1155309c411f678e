/- One evaluation by the kernel: the run of MachineNil comes to true. -/
import Derived.Test.YtjbcjoeedlabkaaGreatDoorStart
set_option linter.unusedVariables false
set_option linter.unusedSimpArgs false
set_option linter.unusedSectionVars false
namespace Go.Proofs.YtjbcjoeedlabkaaGreatDoor
open Go Go.Abs
set_option maxRecDepth 1000000
theorem law_runs : endsTrue (Gorun 1000000 AP lowL ⟨frameOf 3, [], ⟨.leaf, FposOf 32⟩⟩) = true := by kernel_rfl
theorem law_ends : EndsTrue Tryz.prog lowL ⟨frameOf 3, [], ⟨.leaf, posOf 32⟩⟩ := by
  obtain ⟨hp, h⟩ := endsTrue_some law_runs
  rw [Gorun_eq, FposOf_eq] at h
  exact EndsTrue.of_run AP_ok h
end Go.Proofs.YtjbcjoeedlabkaaGreatDoor
