/- LinearNil returns true, whatever order and capacities Go takes; conditions: the listed package variables hold what the row lists. -/
import Derived.Test.YtcibmhncdgoemaaGreatDoorNilRun
set_option linter.unusedVariables false
set_option linter.unusedSimpArgs false
set_option linter.unusedSectionVars false
namespace Go.Proofs.YtcibmhncdgoemaaGreatDoor
open Go.ChangeShapes Go.WideShapes Go.ChangeAt Go.WideMaps Go.WideElems Go.RowKit Go Go.Abs

theorem endsTrue_some {x : Option (AEnd × Heap)} (h : endsTrue x = true) : ∃ hp, x = some (.ret (.bool true), hp) := by
  unfold endsTrue at h
  split at h
  · exact ⟨_, rfl⟩
  · cases h

/-- a call without arguments that the evaluator runs to true: it returns true, and leaves what there was as it was -/
theorem returns_true {f : FuncId} (he : (FenterA AP f [] false).isSome = true) (hr : endsTrue (Gorun 1000000 AP lowL ⟨frameOf f, [], ⟨.leaf, FposOf 32⟩⟩) = true) {w : World} (hl : laidMet Tryz.prog laidL w) :
    Calls Tryz.prog f #[] w fun e w' => e = .returned (.bool true) ∧ w'.os = w.os ∧ w'.output = w.output ∧ w'.tape = w.tape ∧ w.heap.size ≤ w'.heap.size ∧ ∀ i : Nat, i < w.heap.size → w'.heap[i]? = w.heap[i]? := by
  obtain ⟨hp, hr⟩ := endsTrue_some hr
  rw [Gorun_eq, FposOf_eq] at hr
  have hen : enterA AP f [] false = some (frameOf f) := by
    rw [FenterA_eq] at he
    unfold frameOf
    rw [FenterA_eq]
    cases h : enterA AP f [] false with
    | none => rw [h] at he; cases he
    | some g => rfl
  refine (calls_of_run AP_ok hen hr (start_heap hl lows_eq) startInj_glob).mono fun e w' h => ?_
  obtain ⟨f', v', rfl, hv, _, hH⟩ := h
  rw [VRel] at hv
  subst hv
  refine ⟨rfl, hH.os, hH.output, hH.tape, hH.size, fun i hi => (hH.keep i hi).2⟩

theorem kept {w w' : World} (h1 : w'.os = w.os) (h2 : w'.output = w.output) (h3 : ∀ i : Nat, i < w.heap.size → w'.heap[i]? = w.heap[i]?) (may : MemPlace → Prop) : w.keptBut w' may := by
  refine ⟨h1, h2, fun i hi => ?_⟩
  rw [h3 i hi]
  cases w.heap[i]? with
  | none => rfl
  | some o => cases o <;> simp
end Go.Proofs.YtcibmhncdgoemaaGreatDoor
namespace Go.Proofs.YtcibmhncdgoemaaGreatDoor
open Go.ChangeShapes Go.WideShapes Go.ChangeAt Go.WideMaps Go.WideElems Go.RowKit Go Go.Abs
set_option maxRecDepth 100000 in
theorem linearNil_lifted (os : Os) (started : os.Started) (H : Type) (enc : TypeId × Value → H) :
    ReturnsInHanded {} Tryz.checked os 5 .any (fun w args => (Rows.linearNilSpec.pre enc Tryz.prog Tryz.f5 [] false w args ∧ laidMetH Tryz.prog laidL w) ∧ sizedMet enc Tryz.prog Tryz.f5 (OpenSpec.ofChange Rows.linearNilSpec) false w args)
      (Rows.linearNilSpec.post enc Tryz.prog Tryz.f5 false true false false) := by
  refine returnsInHanded_of_change_and (C := Tryz.checked) (X := fun w _ => laidMetH Tryz.prog laidL w) (fun _ _ _ hh h => h.of_heap hh) own started (by kernel_rfl) Tryz.func5
    (ChangeSpec.witness_shaped (enc := enc) (C := Tryz.checked) (os := os) (X := fun w _ => laidMetH Tryz.prog laidL w) false (World.doorLaid Tryz.prog 4000 os) #[] 8 rfl (World.shaped_of_RefB (by kernel_rfl) (by kernel_rfl)) (by kernel_rfl) (by kernel_rfl) (by kernel_rfl) (door_met os _)) ?_
  intro W base args ds gs before hval0 hW _ _ hL _
  have hW' := hW
  obtain ⟨p, q, hA0, hV, rfl, hfz, hnd⟩ := hW
  have hA : DataW.TrodAll enc Tryz.prog W 0 (fun _ => true) true Tryz.f5.params.toList args.toList ds p := hA0
  rw [Tryz.params5] at hA
  obtain ⟨ha, rfl, rfl⟩ := trodAll_nil hA
  obtain ⟨rfl, rfl⟩ := trodVars_none hV
  obtain rfl : args = #[] := by cases args; simp_all
  refine (returns_true nil_enter nil_runs (laid_plain hL)).mono fun e W' h => ?_
  obtain ⟨rfl, h1, h2, h3, h4, h5⟩ := h
  refine ⟨_, rfl, [], [], _, [], [], [], hW', ?_, ?_, ?_, kept h1 h2 h5 _, fun hb => by cases hb⟩
  · exact trodAll_mk1 (shut_bool Tryz.underlying4 _)
  · show DataW.TrodAll enc Tryz.prog W' 0 _ true Tryz.f5.params.toList [] [] []
    rw [Tryz.params5]
    rfl
  · rfl

theorem linearNil_row : Rows.LinearNilSaid :=
  OpenClaim.holds_of_wide 5 Tryz.f5 rfl rfl rfl rfl rfl rfl rfl ⟨rfl, rfl, rfl, rfl, rfl⟩ rfl rfl rfl rfl rfl (by kernel_rfl) Tryz.func5 (by kernel_rfl)
    (of_decide_eq_true (by kernel_rfl)) (by unfold Func.isWrapper; first | (rw [if_pos (by decide +kernel)]; kernel_rfl) | (rw [if_neg (by decide +kernel)]; exact ⟨rfl, rfl⟩))
    (fun os started H enc _ => linearNil_lifted os started H enc)
end Go.Proofs.YtcibmhncdgoemaaGreatDoor
