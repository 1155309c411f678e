/- The row of LinearTexts: it returns true at every record, and the record reads as before. -/
import Derived.Test.YtcibmhncdgoemaaGreatDoorLtWalks
import Derived.Test.YtcibmhncdgoemaaGreatDoorLtKnown
import Derived.Stop.LaidErr
set_option linter.unusedVariables false
set_option linter.unusedSimpArgs false
set_option linter.unusedSectionVars false
namespace Go.Proofs.YtcibmhncdgoemaaGreatDoor
open Go.ChangeShapes Go.WideShapes Go.ChangeAt Go.WideMaps Go.WideElems Go.RowKit Go Go.Abs

theorem kept {w w' : World} (h1 : w'.os = w.os) (h2 : w'.output = w.output) (h3 : ∀ i : Nat, i < w.heap.size → w'.heap[i]? = w.heap[i]?) (may : MemPlace → Prop) : w.keptBut w' may := by
  refine ⟨h1, h2, fun i hi => ?_⟩
  rw [h3 i hi]
  cases w.heap[i]? with
  | none => rfl
  | some o => cases o <;> simp
theorem pow_data : (Rows.laid_internal_strconv_uint64pow10 : DataW Unit) = Lib.tabData .u64 Lib.pow10Tab := by kernel_rfl
theorem pow_of_laid {w : World} (h : laidMet Tryz.prog laidL w) : Pow w := by
  have h1 := h.tail.tail
  rw [pow_data] at h1
  exact Lib.tabIs_of_head (g := 0) (t := 190) (e := 29) (n := 20) (by kernel_rfl) (by kernel_rfl) (by kernel_rfl) Tryz.underlying29 cells29 (by kernel_rfl) h1

/-- LinearTexts returns true at every record -/
theorem texts_true (q t b e m c v : Int) (s : ByteArray) (F : Fits q t b e m c v) (hs : s.size ≤ maxLen) (w : World) (hl : laidMet Tryz.prog laidL w) :
    Calls Tryz.prog 4 #[.agg (doneC q t b e m c v s)] w fun r w' => r = .returned (.bool true) ∧ Below w.heap.size w w' := by
  by_cases h : s.size ≤ 1000
  · exact law_short q t b e m c v s F h w (pow_of_laid hl) fun W hb => known_any hl hb.block
  · exact law_long q t b e m c v s (by omega) hs w fun W hb => known_any hl hb.block

set_option maxRecDepth 100000 in
theorem linearTexts_lifted (os : Os) (started : os.Started) (H : Type) (enc : TypeId × Value → H) :
    ReturnsInHanded {} Tryz.checked os 4 .any (fun w args => (Rows.linearTextsSpec.pre enc Tryz.prog Tryz.f4 [] false w args ∧ laidMetH Tryz.prog laidL w) ∧ sizedMet enc Tryz.prog Tryz.f4 (OpenSpec.ofChange Rows.linearTextsSpec) false w args)
      (Rows.linearTextsSpec.post enc Tryz.prog Tryz.f4 false true false false) := by
  refine returnsInHanded_of_change_and (C := Tryz.checked) (X := fun w _ => laidMetH Tryz.prog laidL w) (fun _ _ _ hh h => h.of_heap hh) own started (by kernel_rfl) Tryz.func4
    (ChangeSpec.witness_shaped (enc := enc) (C := Tryz.checked) (os := os) (X := fun w _ => laidMetH Tryz.prog laidL w) false (World.doorLaid Tryz.prog 4000 os) #[.agg #[.int .i64 0, .int .i64 0, .int .i64 0, .int .i64 0, .int .u64 0, .int .i64 0, .int .i64 0, .string ⟨#[]⟩]] 8 rfl (World.shaped_of_RefB (by kernel_rfl) (by kernel_rfl)) (by kernel_rfl) (by kernel_rfl) (by kernel_rfl) (door_met os _)) ?_
  intro W base args ds gs before hval0 hW _ _ hL _
  have hval : ∀ (j : Nat) t v, Tryz.f4.params[j]? = some t → args[j]? = some v → Value.okWide Tryz.prog W .any base t v := hval0
  have hW' := hW
  obtain ⟨p, q', hA0, hV, rfl, hfz, hnd⟩ := hW
  have hA : DataW.TrodAll enc Tryz.prog W 0 (fun _ => true) true Tryz.f4.params.toList args.toList ds p := hA0
  rw [Tryz.params4] at hA hval
  obtain ⟨x, d, rfl, rfl, h0⟩ := trodAll_one hA
  obtain ⟨rfl, rfl⟩ := trodVars_none hV
  obtain ⟨q, t, b, e, m, c, v, s, rfl, F, hs, rfl, rfl, hre⟩ := open_done (hval 0 31 x rfl rfl) h0
  refine (texts_true q t b e m c v s F hs W (laid_plain hL)).mono fun r W' h => ?_
  obtain ⟨rfl, hb⟩ := h
  refine ⟨_, rfl, _, _, _, [], [], [], hW', ?_, ?_, ?_, kept hb.os hb.output hb.block _, fun hb => by cases hb⟩
  · exact trodAll_mk1 (shut_bool Tryz.underlying4 _)
  · show DataW.TrodAll enc Tryz.prog W' 0 _ true Tryz.f4.params.toList _ _ _
    rw [Tryz.params4]
    exact trodAll_mk1 (hre W' 0 _)
  · rfl

theorem linearTexts_row : Rows.LinearTextsSaid :=
  OpenClaim.holds_of_wide 4 Tryz.f4 rfl rfl rfl rfl rfl rfl rfl ⟨rfl, rfl, rfl, rfl, rfl⟩ rfl rfl rfl rfl rfl (by kernel_rfl) Tryz.func4 (by kernel_rfl)
    (of_decide_eq_true (by kernel_rfl)) (by unfold Func.isWrapper; first | (rw [if_pos (by decide +kernel)]; kernel_rfl) | (rw [if_neg (by decide +kernel)]; exact ⟨rfl, rfl⟩))
    (fun os started H enc _ => linearTexts_lifted os started H enc)
end Go.Proofs.YtcibmhncdgoemaaGreatDoor
