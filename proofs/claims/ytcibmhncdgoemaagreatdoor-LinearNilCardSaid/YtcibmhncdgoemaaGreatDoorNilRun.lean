/- One evaluation by the kernel: the run of LinearNil comes to true. -/
import Derived.Test.YtcibmhncdgoemaaGreatDoorStart
set_option linter.unusedVariables false
set_option linter.unusedSimpArgs false
set_option linter.unusedSectionVars false
namespace Go.Proofs.YtcibmhncdgoemaaGreatDoor
open Go Go.Abs

/-- the frame of a call without arguments -/
noncomputable def frameOf (f : FuncId) : AFrame := match FenterA AP f [] false with | some g => g | none => ⟨⟨0, 0, 0, false, none⟩, ⟨[], .leaf⟩, [], [], .run⟩
/-- is a run's end the value true? -/
def endsTrue (x : Option (AEnd × Heap)) : Bool := match x with | some (.ret (.bool true), _) => true | _ => false
set_option maxRecDepth 1000000
theorem nil_enter : (FenterA AP 5 [] false).isSome = true := by kernel_rfl
theorem nil_runs : endsTrue (Gorun 1000000 AP lowL ⟨frameOf 5, [], ⟨.leaf, FposOf 32⟩⟩) = true := by kernel_rfl
end Go.Proofs.YtcibmhncdgoemaaGreatDoor
