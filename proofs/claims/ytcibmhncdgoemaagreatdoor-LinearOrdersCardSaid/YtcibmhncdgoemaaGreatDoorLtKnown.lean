/- One evaluation by the kernel: the run of known comes to true, in whatever world in which the listed variables lie as they lay. -/
import Derived.Test.YtcibmhncdgoemaaGreatDoorStart
set_option linter.unusedVariables false
set_option linter.unusedSimpArgs false
set_option linter.unusedSectionVars false
namespace Go.Proofs.YtcibmhncdgoemaaGreatDoor
open Go.ChangeShapes Go.WideShapes Go.ChangeAt Go.WideMaps Go.WideElems Go.RowKit Go Go.Abs

/-- the frame of a call without arguments -/
noncomputable def frameOf (f : FuncId) : AFrame := match FenterA AP f [] false with | some g => g | none => ⟨⟨0, 0, 0, false, none⟩, ⟨[], .leaf⟩, [], [], .run⟩
/-- is a run's end the value true? -/
def endsTrue (x : Option (AEnd × Heap)) : Bool := match x with | some (.ret (.bool true), _) => true | _ => false
set_option maxRecDepth 1000000
theorem known_enter : (FenterA AP 7 [] false).isSome = true := by kernel_rfl
theorem known_runs : endsTrue (Gorun 1000000 AP lowL ⟨frameOf 7, [], ⟨.leaf, FposOf 32⟩⟩) = true := by kernel_rfl

theorem endsTrue_some {x : Option (AEnd × Heap)} (h : endsTrue x = true) : ∃ hp, x = some (.ret (.bool true), hp) := by
  unfold endsTrue at h
  split at h
  · exact ⟨_, rfl⟩
  · cases h

/-- the closed run, in whatever world in which the listed variables lie as they lay -/
theorem known_any {w W : World} (hl : laidMet Tryz.prog laidL w) (hk : ∀ i : Nat, i < w.heap.size → W.heap[i]? = w.heap[i]?) :
    Calls Tryz.prog 7 #[] W fun e w' => e = .returned (.bool true) ∧ Below W.heap.size W w' := by
  obtain ⟨hp, hr⟩ := endsTrue_some known_runs
  have he := known_enter
  rw [Gorun_eq, FposOf_eq] at hr
  have hen : enterA AP 7 [] false = some (frameOf 7) := by
    rw [FenterA_eq] at he
    unfold frameOf
    rw [FenterA_eq]
    cases h : enterA AP 7 [] false with
    | none => rw [h] at he; cases he
    | some g => rfl
  refine (calls_of_run AP_ok hen hr (start_heap_later hl lows_eq hk) startInj_glob).mono fun e w' h => ?_
  obtain ⟨f', v', rfl, hv, _, hH⟩ := h
  rw [VRel] at hv
  subst hv
  exact ⟨rfl, hH.os, hH.tape, hH.output, hH.size, fun i hi => (hH.keep i hi).2⟩
end Go.Proofs.YtcibmhncdgoemaaGreatDoor
