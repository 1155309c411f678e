/- MachineNil returns true, whatever order and capacities Go takes; conditions: the listed package variables hold what the row lists. -/
import Derived.Test.YtjbcjoeedlabkaaGreatDoorRun
import GoSem.ClaimGoes
import Derived.JoinedOf
set_option linter.unusedVariables false
set_option linter.unusedSimpArgs false
set_option linter.unusedSectionVars false
namespace Go.Abs
open Go
/-! the closure of a function, who was seen told by the bits of a number -/
def fvia (P : Program) : (fuel : Nat) → (todo : List FuncId) → (m : Nat) → (seen : List FuncId) → List FuncId
  | 0, _, _, seen => seen.reverse
  | _, [], _, seen => seen.reverse
  | n + 1, f :: todo, m, seen => bif Nat.testBit m f then fvia P n todo m seen else fvia P n ((P.funcs[f]?).elim [] P.leadsTo ++ todo) (Nat.lor m (Nat.shiftLeft 1 f)) (f :: seen)
theorem fvia_eq (P : Program) : ∀ (n : Nat) (todo : List FuncId) (m : Nat) (seen : List FuncId), (∀ g : FuncId, Nat.testBit m g = seen.contains g) → fvia P n todo m seen = P.closureVia n todo seen := by
  intro n
  induction n with
  | zero => intro todo m seen _; cases todo <;> rfl
  | succ n ih =>
    intro todo m seen h
    cases todo with
    | nil => rfl
    | cons f todo =>
      rw [fvia, Program.closureVia, h f]
      cases hc : seen.contains f
      · simp only [cond_false, Bool.false_eq_true, if_false]
        refine ih _ _ _ fun g => ?_
        show Nat.testBit (m ||| (1 <<< f)) g = _
        rw [Nat.testBit_or, h g, List.contains_cons, Nat.testBit_shiftLeft, Bool.or_comm]
        congr 1
        by_cases e : g = f
        · subst e; simp
        · have : (g == f) = false := by simpa using e
          rw [this]
          by_cases hl : f ≤ g
          · have hz : g - f ≠ 0 := Nat.sub_ne_zero_of_lt (Nat.lt_of_le_of_ne hl (fun x => e x.symm))
            have h1 : Nat.testBit 1 (g - f) = false := Bool.eq_false_iff.2 fun h => hz (Nat.testBit_one_eq_true_iff_self_eq_zero.1 h)
            rw [h1, Bool.and_false]
          · simp [hl]
      · simp only [cond_true, if_true]
        exact ih _ _ _ h
def fclosure (P : Program) (f : FuncId) : List FuncId := fvia P (1 + (P.funcs.toList.map fun g => (P.leadsTo g).length + 1).sum) [f] 0 []
theorem fclosure_eq (P : Program) (f : FuncId) : fclosure P f = P.closure f := fvia_eq P _ _ _ _ fun g => by simp
theorem inPlace_by {P : Program} {f : FuncId} {l : List String}
    (h : (l == (fclosure P f).filterMap fun g => (P.funcs[g]?).bind fun fn => if fn.ours || fn.body.isNone || fn.name == "runtime.NumGoroutine" then some fn.name else none) = true) : (l == P.inPlace f) = true := by
  unfold Program.inPlace; rw [← fclosure_eq]; exact h
theorem unfollowed_by {P : Program} {f : FuncId} {b : Bool}
    (h : (b == (fclosure P f).any fun g => (P.funcs[g]?).any fun fn => match fn.body with | some c => c.unfollowed | none => entryCalls fn) = true) : (b == P.unfollowed f) = true := by
  unfold Program.unfollowed; rw [← fclosure_eq]; exact h
theorem recurses_by {P : Program} {f : FuncId} {b c : Bool} (hc : c = true) (hb : b = true) (h : (b == P.unfollowed f) = true) : (c == P.recurses f) = true := by
  subst hb hc
  have h' : P.unfollowed f = true := by simpa using h
  unfold Program.recurses; rw [h', Bool.true_or]; rfl
theorem named_by {P : Program} {f : FuncId} {l : List String}
    (h : (l == ((((fclosure P f).flatMap fun g => ((P.funcs[g]?).bind (·.body)).elim [] Code.globalsNamed).eraseDups).filterMap (fun g => (P.globals[g]?).map (·.name)) ++
   (fclosure P f).filterMap fun g => (P.funcs[g]?).bind fun fn => if fn.body.isNone then entryReads.lookup fn.name else none).eraseDups) = true) : (l == P.varsNamed f) = true := by
  unfold Program.varsNamed; rw [← fclosure_eq]; exact h
/-- where no function of the translation starts a goroutine, the row's cell is false -/
theorem goesBy_no {P : Program} {c : OpenClaim} (hs : c.start = .entering) (h : (P.funcs.toList.all fun fn => !fn.goes) = true) : false = c.goesBy P := by
  have hn : ∀ fn ∈ P.funcs, fn.goes = false := fun fn hm => by
    have := List.all_eq_true.1 h fn (Array.mem_toList_iff.2 hm)
    simpa using this
  have h1 : P.funcs.any Func.goes = false := by
    rw [Bool.eq_false_iff]
    intro hc
    obtain ⟨i, hi, hg⟩ := Array.any_eq_true.1 hc
    rw [hn _ (Array.getElem_mem hi)] at hg
    cases hg
  have h2 : ∀ g : FuncId, (P.funcs[g]?).any Func.goes = false := fun g => by
    cases hg : P.funcs[g]? with
    | none => rfl
    | some fn => exact hn fn (Array.mem_of_getElem? hg)
  have h3 : ∀ f : FuncId, P.goes f = false := fun f => by
    unfold Program.goes
    rw [h1, Bool.and_false, Bool.or_false, Bool.eq_false_iff]
    intro hc
    rw [List.any_eq_true] at hc
    obtain ⟨g, _, hg⟩ := hc
    rw [h2] at hg
    cases hg
  unfold OpenClaim.goesBy Program.goesAt Program.goesFrom
  rw [hs]
  cases P.funcNamed c.func with
  | none => rfl
  | some f => simp [h3]
end Go.Abs
namespace Go.Proofs.YtjbcjoeedlabkaaGreatDoor
open Go.ChangeShapes Go.WideShapes Go.ChangeAt Go.WideMaps Go.WideElems Go.RowKit Go Go.Abs

/-- the call returns true, and leaves what there was as it was -/
theorem returns_true {w : World} (hl : laidMet Tryz.prog laidL w) :
    Calls Tryz.prog 3 #[] w fun e w' => e = .returned (.bool true) ∧ w'.os = w.os ∧ w'.output = w.output ∧ ∀ i : Nat, i < w.heap.size → w'.heap[i]? = w.heap[i]? := by
  have hen : enterA AP 3 [] false = some (frameOf 3) := by
    have he := law_enter
    rw [FenterA_eq] at he
    unfold frameOf
    rw [FenterA_eq]
    cases h : enterA AP 3 [] false with
    | none => rw [h] at he; cases he
    | some g => rfl
  refine (calls_of_ends AP_ok hen law_ends (start_heap hl lows_eq) startInj_glob).mono fun e w' h => ?_
  obtain ⟨rfl, f', hp, hH⟩ := h
  exact ⟨rfl, hH.os, hH.output, fun i hi => (hH.keep i hi).2⟩

theorem kept {w w' : World} (h1 : w'.os = w.os) (h2 : w'.output = w.output) (h3 : ∀ i : Nat, i < w.heap.size → w'.heap[i]? = w.heap[i]?) (may : MemPlace → Prop) : w.keptBut w' may := by
  refine ⟨h1, h2, fun i hi => ?_⟩
  rw [h3 i hi]
  cases w.heap[i]? with
  | none => rfl
  | some o => cases o <;> simp

set_option maxRecDepth 100000 in
theorem law_lifted (os : Os) (started : os.Started) (H : Type) (enc : TypeId × Value → H) :
    ReturnsInHanded {} Tryz.checked os 3 .any (fun w args => (Rows.machineNilSpec.pre enc Tryz.prog Tryz.f3 [] false w args ∧ laidMetH Tryz.prog laidL w) ∧ sizedMet enc Tryz.prog Tryz.f3 (OpenSpec.ofChange Rows.machineNilSpec) false w args)
      (Rows.machineNilSpec.post enc Tryz.prog Tryz.f3 false true false false) := by
  refine returnsInHanded_of_change_and (C := Tryz.checked) (X := fun w _ => laidMetH Tryz.prog laidL w) (fun _ _ _ hh h => h.of_heap hh) own started (by kernel_rfl) Tryz.func3
    (ChangeSpec.witness_shaped (enc := enc) (C := Tryz.checked) (os := os) (X := fun w _ => laidMetH Tryz.prog laidL w) false (World.doorLaid Tryz.prog 4000 os) #[] 8 rfl (World.shaped_of_RefB (by kernel_rfl) (by kernel_rfl)) (by kernel_rfl) (by kernel_rfl) (by kernel_rfl) (door_met os _)) ?_
  intro W base args ds gs before hval0 hW _ _ hL _
  have hW' := hW
  obtain ⟨p, q, hA0, hV, rfl, hfz, hnd⟩ := hW
  have hA : DataW.TrodAll enc Tryz.prog W 0 (fun _ => true) true Tryz.f3.params.toList args.toList ds p := hA0
  rw [Tryz.params3] at hA
  obtain ⟨ha, rfl, rfl⟩ := trodAll_nil hA
  obtain ⟨rfl, rfl⟩ := trodVars_none hV
  obtain rfl : args = #[] := by cases args; simp_all
  refine (returns_true (laid_plain hL)).mono fun e W' h => ?_
  obtain ⟨rfl, h1, h2, h5⟩ := h
  refine ⟨_, rfl, [], [], _, [], [], [], hW', ?_, ?_, ?_, kept h1 h2 h5 _, fun hb => by cases hb⟩
  · exact trodAll_mk1 (shut_bool Tryz.underlying4 _)
  · show DataW.TrodAll enc Tryz.prog W' 0 _ true Tryz.f3.params.toList [] [] []
    rw [Tryz.params3]
    rfl
  · rfl

theorem both {a b : Bool} (h : a = true) (k : b = true) : (a && b) = true := by rw [h, k]; rfl
set_option maxRecDepth 100000 in
set_option maxHeartbeats 0 in
/-- the row's closed facts, each for itself -/
theorem law_facts : joinedFacts Tryz.pinned.checked.prog 3 Tryz.f3 Rows.machineNilSpec Rows.machineNilRow = true := by
  unfold joinedFacts
  refine both (both (both (both (both (both (both (both (both (both (both (both (both (both (both (both (both (both (both (both (both (both (both (both (both (both (both (both (both (both (both ?_ ?_) ?_) ?_) ?_) ?_) ?_) ?_) ?_) (inPlace_by ?_)) (unfollowed_by ?_)) (recurses_by rfl rfl (unfollowed_by ?_))) (named_by ?_)) ?_) ?_) ?_) ?_) ?_) ?_) ?_) ?_) ?_) ?_) ?_) ?_) ?_) ?_) ?_) ?_) ?_) ?_) ?_
  all_goals (as_aux_lemma => kernel_rfl)

set_option maxHeartbeats 0 in
theorem law_row : Rows.MachineNilSaid :=
  OpenClaim.holds_of_wide 3 Tryz.f3 rfl rfl rfl rfl rfl rfl rfl ⟨rfl, rfl, rfl, rfl, rfl⟩ rfl rfl rfl rfl rfl (by as_aux_lemma => kernel_rfl) Tryz.func3 law_facts
    (of_decide_eq_true (by as_aux_lemma => kernel_rfl)) (by unfold Func.isWrapper; first | (rw [if_pos (by decide +kernel)]; kernel_rfl) | (rw [if_neg (by decide +kernel)]; exact ⟨rfl, rfl⟩))
    (fun os started H enc _ => law_lifted os started H enc)
end Go.Proofs.YtjbcjoeedlabkaaGreatDoor
