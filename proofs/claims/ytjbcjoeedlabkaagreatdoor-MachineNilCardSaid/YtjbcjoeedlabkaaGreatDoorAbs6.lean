/- Own work: an evaluator of closed runs over the model, and why it is right. Part of the proof; holds for any program. -/
import GoSem.ClaimJoined
import Derived.Test.YtjbcjoeedlabkaaGreatDoorAbs5
set_option linter.unusedVariables false
set_option linter.unusedSimpArgs false
set_option linter.unusedSectionVars false
namespace Go.Abs
/-- a set of numbers -/
def unitsAt : List Nat → PTree Unit
  | [] => .leaf
  | t :: l => (unitsAt l).put (posOf t) ()
theorem unitsAt_mem : ∀ {l : List Nat} {t : Nat} {u : Unit}, (unitsAt l).get (posOf t) = some u → t ∈ l := by
  intro l
  induction l with
  | nil => intro t u h; rw [unitsAt] at h; cases hp : posOf t <;> rw [hp] at h <;> simp [PTree.get] at h
  | cons x l ih =>
    intro t u h
    rw [unitsAt, PTree.get_put] at h
    split at h
    · rename_i he; rw [posOf_inj he]; exact List.mem_cons_self
    · exact List.mem_cons_of_mem _ (ih h)
/-- the tie of a program's tables to the evaluator's -/
theorem ok_of {P : Program} {A : AProg} (ts : List TypeInfo) (fs : List Func) (pl : List Nat) (cl : Nat) (fcl : Func)
    (hts : P.types = ts.toArray) (hfs : P.funcs = fs.toArray)
    (h1 : A.types = PTree.ofList ts) (h2 : A.funcs = PTree.ofList fs)
    (h3 : A.clones = PTree.leaf.put (posOf cl) ()) (h4 : A.plain = unitsAt pl)
    (hname : (fs.all fun fn => fn.body.isNone || !(fn.name == "runtime.NumGoroutine")) = true)
    (hc1 : fs[cl]? = some fcl) (hc2 : (fcl.name == "runtime.NumGoroutine") = false) (hc3 : fcl.body = none) (hc4 : Extern.findNext fcl = none) (hc5 : Extern.find fcl = some Extern.MapsClone.clone)
    (hplain : (pl.all fun t => !(P.stoodInHeld t)) = true)
    (hm : P.follows .mixedOrders = true) (hd : Nat.ble 40 P.depth = true) : A.Ok P where
  types := by
    intro t i h
    rw [h1, PTree.get_ofList] at h
    unfold Tables.info?
    rw [hts]
    have hl : t < ts.length := (List.getElem?_eq_some_iff.1 h).1
    simp [h, Nat.not_le.2 hl]
  funcs := by
    intro g fn h
    rw [h2, PTree.get_ofList] at h
    rw [hfs]; simpa using h
  calls := by
    intro g fn c h hb args w
    rw [h2, PTree.get_ofList] at h
    have hg : P.funcs[g]? = some fn := by rw [hfs]; simpa using h
    have hmem : fn ∈ fs := List.mem_of_getElem? h
    have hn := List.all_eq_true.1 hname fn hmem
    simp [hb] at hn
    simp [callFunc, hg, hn, hb]
  clones := by
    intro g u h args w
    rw [h3, PTree.get_put] at h
    split at h
    · rename_i he
      have := posOf_inj he
      subst this
      have hg : P.funcs[cl]? = some fcl := by rw [hfs]; simpa using hc1
      have hn : fcl.name ≠ "runtime.NumGoroutine" := by simpa using hc2
      simp [callFunc, hg, hn, hc3, hc4, hc5]
    · simp at h
  plain := by
    intro t u h
    rw [h4] at h
    have := List.all_eq_true.1 hplain t (unitsAt_mem h)
    simpa using this
  mixed := hm
  depth := Nat.le_of_ble_eq_true hd
/-- the same of a program without maps.clone -/
theorem ok_of0 {P : Program} {A : AProg} (ts : List TypeInfo) (fs : List Func) (pl : List Nat)
    (hts : P.types = ts.toArray) (hfs : P.funcs = fs.toArray)
    (h1 : A.types = PTree.ofList ts) (h2 : A.funcs = PTree.ofList fs)
    (h3 : A.clones = PTree.leaf) (h4 : A.plain = unitsAt pl)
    (hname : (fs.all fun fn => fn.body.isNone || !(fn.name == "runtime.NumGoroutine")) = true)
    (hplain : (pl.all fun t => !(P.stoodInHeld t)) = true)
    (hm : P.follows .mixedOrders = true) (hd : Nat.ble 40 P.depth = true) : A.Ok P where
  types := by
    intro t i h
    rw [h1, PTree.get_ofList] at h
    unfold Tables.info?
    rw [hts]
    have hl : t < ts.length := (List.getElem?_eq_some_iff.1 h).1
    simp [h, Nat.not_le.2 hl]
  funcs := by
    intro g fn h
    rw [h2, PTree.get_ofList] at h
    rw [hfs]; simpa using h
  calls := by
    intro g fn c h hb args w
    rw [h2, PTree.get_ofList] at h
    have hg : P.funcs[g]? = some fn := by rw [hfs]; simpa using h
    have hmem : fn ∈ fs := List.mem_of_getElem? h
    have hn := List.all_eq_true.1 hname fn hmem
    simp [hb] at hn
    simp [callFunc, hg, hn, hb]
  clones := by
    intro g u h args w
    rw [h3] at h
    cases hp : posOf g <;> rw [hp] at h <;> simp [PTree.get] at h
  plain := by
    intro t u h
    rw [h4] at h
    have := List.all_eq_true.1 hplain t (unitsAt_mem h)
    simpa using this
  mixed := hm
  depth := Nat.le_of_ble_eq_true hd
end Go.Abs

namespace Go.Abs
set_option linter.unusedVariables false
set_option linter.unusedSimpArgs false
section
variable {A : AProg} {P : Program}

/-- a step of a run in parts is right -/
theorem advance_ok (hA : A.Ok P) {n : Nat} {L : List (PTree AObj)} {s s' : AState} (hr : advance n A L s = some s') (E : Keep) (f : Inj) (fr : Frame) (cs cs0 : List Frame) (w : World) (hM : MRel P E L f s fr cs w) :
    ∃ f' fr' cs' w', Steps P (lone fr (cs ++ cs0) w) (lone fr' (cs' ++ cs0) w') ∧ f.le f' ∧ MRel P E L f' s' fr' cs' w' ∧ s'.bot = s.bot := by
  unfold advance at hr
  split at hr
  · simp at hr
  · have hst := astep_ok (L := L) (cs0 := cs0) hA hM
    have hbot := astep_bot (A := A) (L := L) (s := s)
    generalize hs : astep A L s = st at hr hst hbot
    cases st with
    | fail => simp at hr
    | next s1 =>
      simp only [Option.some.injEq] at hr
      subst hr
      obtain ⟨f', fr', cs', w', h1, h2, h3⟩ := hst
      exact ⟨f', fr', cs', w', h1, h2, h3, hbot⟩
    | ways l => simp at hr
    | call g args s1 =>
      obtain ⟨a, acs, t, nx⟩ := s1
      simp only at hr
      obtain ⟨f', fr', cs', w', h1, h2, h3, h4⟩ := hst
      have hbot : bot a acs = s.bot := hbot
      split at hr
      · rename_i fr0 cs1 t1 nx1 g' heq hen
        obtain ⟨⟨⟩, ⟨⟩, ⟨⟩, ⟨⟩⟩ : fr0 = a ∧ cs1 = acs ∧ t1 = t ∧ nx1 = nx := by
          simp at heq; obtain ⟨rfl, rfl, rfl, rfl⟩ := heq; exact ⟨rfl, rfl, rfl, rfl⟩
        have hex : ∃ fn c, A.funcs.get (posOf g) = some fn ∧ fn.body = some c := by
          unfold enterA at hen
          split at hen
          · rename_i fn hfn
            split at hen
            · rename_i c hc; exact ⟨fn, c, hfn, hc⟩
            · simp at hen
          · simp at hen
        obtain ⟨fn, c, hfn, hc⟩ := hex
        obtain ⟨vargs, h5, h6⟩ := h4 fn c hfn hc
        obtain ⟨h7, _⟩ := enterA_ok hA hen h5
        have hM' : MRel P E (t :: L) f' ⟨g', [], ⟨.leaf, nx⟩⟩ (Frame.enter P g vargs .normal) [] w' := ⟨h7, rfl, by
          have := h3.heap
          simp only at this
          rw [show hget (t :: L) ⟨.leaf, nx⟩ = hget L ⟨t, nx⟩ from hget_leaf]
          exact this, h3.glob⟩
        split at hr
        · rename_i v t' nx' hrun
          split at hr
          · rename_i fr2 hfin
            simp only [Option.some.injEq] at hr
            subst hr
            obtain ⟨f2, fr3, w3, s1, s2, s3, ⟨v', s4, s5⟩, s6⟩ := run_sound hA n (t :: L) _ _ hrun E f' _ [] (fr' :: (cs' ++ cs0)) w' hM'
            have hMM : MRel P E L f2 ⟨fr2, acs, ⟨t'.union t, nx'⟩⟩ (fr'.finish v') cs' w3 := ⟨finish_ok hfin (h3.fr.mono s2) s5, h3.cs.mono s2, by
              have := s3
              simp only at this
              rw [← hget_union (nx := nx')] at this
              exact this, h3.glob.mono s2⟩
            exact ⟨f2, _, cs', w3, h1.trans (.head h6 (s1.trans (.one (step_leave_returned s4)))), Inj.le_trans h2 s2, hMM, (bot_congr (finishA_fi hfin) acs).trans hbot⟩
          · simp at hr
        · rename_i ch t' nx' hrun
          simp only [Option.some.injEq] at hr
          subst hr
          obtain ⟨f2, fr3, w3, s1, s2, s3, ⟨v', s4, s5⟩, s6⟩ := run_sound hA n (t :: L) _ _ hrun E f' _ [] (fr' :: (cs' ++ cs0)) w' hM'
          have hMM : MRel P E L f2 ⟨raiseA a ch, acs, ⟨t'.union t, nx'⟩⟩ (fr'.raise v') cs' w3 := ⟨raise_ok (h3.fr.mono s2) s5, h3.cs.mono s2, by
            have := s3
            simp only at this
            rw [← hget_union (nx := nx')] at this
            exact this, h3.glob.mono s2⟩
          exact ⟨f2, _, cs', w3, h1.trans (.head h6 (s1.trans (.one (step_leave_panicked s4)))), Inj.le_trans h2 s2, hMM, (bot_congr (raiseA_fi _ _) acs).trans hbot⟩
        · simp at hr
      · simp at hr
    | draw id ops k s1 =>
      obtain ⟨⟨fi, e, todo, ds, m⟩, acs, h⟩ := s1
      simp only at hr
      obtain ⟨h1, hm, k', ht, hk⟩ := hst
      have hbot : bot ⟨fi, e, todo, ds, m⟩ acs = s.bot := hbot
      have hmm : m = .run := by
        have := h1.fr.mode
        cases m with
        | run => rfl
        | returning => rw [hm] at this; simp [MoRel] at this
        | panicking c => obtain ⟨c', e, _⟩ := this; rw [hm] at e; simp at e
      subst hmm
      have hstep : step P (lone fr (cs ++ cs0) w) = .next (lone { fr with todo := .inRegion ops (Region.linearise .any ops (w.tape w.drawn (.order fr.fn id))) :: k' } (cs ++ cs0) { w with drawn := w.drawn + 1 }) := by
        refine step_lone_go ?_
        simp [stepG, hm, stepG.exec, ht, choose, Sem.run, Question.forced, Question.cut, hA.mixed, Region.schedule]
      have hF := h1.fr
      have hF' : FrRel P f ⟨fi, ⟨[], flush fi.msk e.rc e.tm⟩, k, ds, .run⟩ { ({ fr with todo := .inRegion ops (Region.linearise .any ops (w.tape w.drawn (.order fr.fn id))) :: k' } : Frame) with todo := k' } :=
        ⟨hF.fn, hF.env.flush, .inl hk, hF.defers, hF.mode, hF.kind, hF.rnd, hF.rndk, hF.fnok⟩
      have hH' : HRel E f (hget L h) h.next { w with drawn := w.drawn + 1 } := h1.heap.same rfl ⟨rfl, rfl, rfl⟩
      split at hr
      · rename_i e' h' hd
        simp only [Option.some.injEq] at hr
        subst hr
        obtain ⟨f2, fr2, w2, s1, s2, s3, s4⟩ := draw_sound hA (run_sound hA n L) fi.nt ops _ h _ hd E f fi k ds _ (cs ++ cs0) _ _ k' rfl hF' rfl h1.glob hH'
        exact ⟨f2, fr2, cs, w2, .head hstep s1, s2, ⟨s3, h1.cs.mono s2, s4, h1.glob.mono s2⟩, (bot_congr (a := ⟨fi, e', k, ds, .run⟩) (b := ⟨fi, e, todo, ds, .run⟩) rfl acs).trans hbot⟩
      · rename_i c h' hd
        simp only [Option.some.injEq] at hr
        subst hr
        obtain ⟨f2, fr2, w2, s1, s2, s3, s4⟩ := draw_sound hA (run_sound hA n L) fi.nt ops _ h _ hd E f fi k ds _ (cs ++ cs0) _ _ k' rfl hF' rfl h1.glob hH'
        exact ⟨f2, fr2, cs, w2, .head hstep s1, s2, ⟨s3, h1.cs.mono s2, s4, h1.glob.mono s2⟩, (bot_congr (a := raiseA ⟨fi, ⟨[], delDsts ops.toList (flush fi.msk e.rc e.tm)⟩, [.lost], ds, .run⟩ c) (b := ⟨fi, e, todo, ds, .run⟩) (raiseA_fi _ _) acs).trans hbot⟩
      · simp at hr

theorem runTo_ok (hA : A.Ok P) : ∀ (k : Nat) {n : Nat} {L : List (PTree AObj)} {s s' : AState}, runTo k n A L s = some s' → ∀ (E : Keep) (f : Inj) (fr : Frame) (cs cs0 : List Frame) (w : World), MRel P E L f s fr cs w →
    ∃ f' fr' cs' w', Steps P (lone fr (cs ++ cs0) w) (lone fr' (cs' ++ cs0) w') ∧ f.le f' ∧ MRel P E L f' s' fr' cs' w' ∧ s'.bot = s.bot := by
  intro k
  induction k with
  | zero =>
    intro n L s s' h E f fr cs cs0 w hM
    simp [runTo] at h
    subst h
    exact ⟨f, fr, cs, w, .refl _ _, f.le_refl, hM, rfl⟩
  | succ k ih =>
    intro n L s s' h E f fr cs cs0 w hM
    unfold runTo at h
    split at h
    · rename_i s1 h1
      obtain ⟨f1, fr1, cs1, w1, a1, a2, a3, a4⟩ := advance_ok hA h1 E f fr cs cs0 w hM
      obtain ⟨f2, fr2, cs2, w2, b1, b2, b3, b4⟩ := ih h E f1 fr1 cs1 cs0 w1 a3
      exact ⟨f2, fr2, cs2, w2, a1.trans b1, Inj.le_trans a2 b2, b3, b4.trans a4⟩
    · simp at h

theorem keepIn_get {t : PTree AObj} : ∀ {ks : List Nat} {i : Pos} {o : AObj}, (keepIn t ks).get i = some o → t.get i = some o := by
  intro ks
  induction ks with
  | nil => intro i o h; rw [keepIn] at h; cases i <;> simp [PTree.get] at h
  | cons k ks ih =>
    intro i o h
    rw [keepIn] at h
    split at h
    · rename_i o' ho
      rw [PTree.get_put] at h
      split at h
      · rename_i he; subst he; rw [ho, ← h]
      · exact ih h
    · exact ih h
theorem noneOf_get {t : PTree AObj} : ∀ {gs : List Nat}, noneOf t gs = true → ∀ g ∈ gs, t.get (posOf g) = none := by
  intro gs
  induction gs with
  | nil => intro _ g hg; simp at hg
  | cons k gs ih =>
    intro h g hg
    rw [noneOf] at h
    split at h
    · simp at h
    · rename_i hn
      cases hg with
      | head => exact hn
      | tail _ hg => exact ih h g hg

/-- the low layer lies at these numbers alone -/
def LowAt (L : List (PTree AObj)) (gs : List Nat) : Prop := ∀ i o, lowGet L i = some o → ∃ g ∈ gs, i = posOf g

/-- from here on all ends in the value true -/
def EndsTrue (P : Program) (L : List (PTree AObj)) (s : AState) : Prop :=
  ∃ hp, ∀ (E : Keep) (f : Inj) (fr : Frame) (cs cs0 : List Frame) (w : World), MRel P E L f s fr cs w → Ends P E L cs0 f fr cs w s.bot (.ret (.bool true), hp)

theorem EndsTrue.of_run (hA : A.Ok P) {n : Nat} {L : List (PTree AObj)} {s : AState} {hp : Heap} (h : run n A L s = some (.ret (.bool true), hp)) : EndsTrue P L s :=
  ⟨hp, fun E f fr cs cs0 w hM => run_sound hA n L s _ h E f fr cs cs0 w hM⟩

theorem EndsTrue.of_part (hA : A.Ok P) {k n : Nat} {gs ks : List Nat} {L : List (PTree AObj)} {s s1 : AState} (hL : LowAt L gs) (h : part k n gs ks A L s = some s1) (h1 : EndsTrue P L s1) : EndsTrue P L s := by
  obtain ⟨hp, h1⟩ := h1
  refine ⟨hp, fun E f fr cs cs0 w hM => ?_⟩
  unfold part at h
  split at h
  · rename_i s' hs'
    obtain ⟨f', fr', cs', w', a1, a2, a3, a4⟩ := runTo_ok hA k hs' E f fr cs cs0 w hM
    obtain ⟨fr2, cs2, t, nx⟩ := s'
    unfold trimA at h
    simp only [cond_eq] at h
    split at h
    · rename_i hn
      simp only [Option.some.injEq] at h
      subst h
      have hM1 : MRel P E L f' ⟨fr2, cs2, ⟨keepIn t ks, nx⟩⟩ fr' cs' w' := ⟨a3.fr, a3.cs, a3.heap.less (fun i o hi _ => by
        simp only [hget] at hi ⊢
        split at hi
        · rename_i o' ho'
          simp at hi; subst hi
          rw [keepIn_get ho']
        · obtain ⟨g, hg, rfl⟩ := hL i o hi
          rw [noneOf_get hn g hg]
          exact hi) (Nat.le_refl _), a3.glob⟩
      have := (h1 E f' fr' cs' cs0 w' hM1).head a1 a2
      rw [show AState.bot ⟨fr2, cs2, ⟨keepIn t ks, nx⟩⟩ = s.bot from a4] at this
      exact this
    · simp at h
  · simp at h

/-- a call without arguments, by parts -/
theorem calls_of_ends (hA : A.Ok P) {g : FuncId} {a : AFrame} {L : List (PTree AObj)} {nx : Pos} (hen : enterA A g [] false = some a) (hr : EndsTrue P L ⟨a, [], ⟨.leaf, nx⟩⟩)
    {E : Keep} {f : Inj} {w : World} (hH : HRel E f (lowGet L) nx w) (hg : GRel f) : Calls P g #[] w fun e w' => e = .returned (.bool true) ∧ ∃ f' hp, HRel E f' (hget L hp) hp.next w' := by
  intro cs
  obtain ⟨hp, hr⟩ := hr
  obtain ⟨hfe, _⟩ := enterA_ok hA hen (vargs := #[]) (f := f) rfl
  have hget0 : hget L ⟨.leaf, nx⟩ = lowGet L := by funext i; simp only [hget, leaf_get]
  obtain ⟨f', fr', w', s1, s2, s3, ⟨v', s4, s5⟩, s6⟩ := hr E f _ [] cs w ⟨hfe, rfl, by rw [hget0]; exact hH, hg⟩
  have hfi : a.fi.fn = g := by
    unfold enterA at hen
    split at hen
    · split at hen
      · rw [cond_eq] at hen
        split at hen
        · simp at hen; subst hen; rfl
        · simp at hen
      · simp at hen
    · simp at hen
  rw [VRel] at s5
  subst s5
  exact ⟨_, w', fr', ⟨rfl, f', hp, s3⟩, s1, by rw [s6]; exact hfi, s4⟩
end
end Go.Abs

namespace Go.Abs
open Go

/-! ## what the listed variables hold -/
section
variable (P : Program)
mutual
/-- the cells of a datum that holds no memory of its own -/
def cellsD : Nat → TypeId → DataW Unit → Option (List AVal)
  | 0, _, _ => none
  | n + 1, t, d => match P.underlying t, d with
    | some .bool, .lit (.bool b) => some [.bool b]
    | some (.int k), .lit (.int j m) => bif beqKind j k then some [.int k m] else none
    | some .string, .lit (.string s) => some [.str (s.map UInt8.toNat)]
    | some (.struct fs), .agg ds => fieldsD n fs.toList ds 0
    | some (.array m e), .agg ds => elemsD n e (List.range m) ds 0
    | _, _ => none
def fieldsD : Nat → List Field → List (DataW Unit) → Nat → Option (List AVal)
  | 0, _, _, _ => none
  | n + 1, f :: fs, d :: ds, off => bif Nat.beq f.offset off then (match cellsD n f.type d with
    | some l => (match fieldsD n fs ds (off + l.length) with | some r => some (l ++ r) | none => none)
    | none => none) else none
  | _ + 1, [], [], _ => some []
  | _, _, _, _ => none
def elemsD : Nat → TypeId → List Nat → List (DataW Unit) → Nat → Option (List AVal)
  | 0, _, _, _, _ => none
  | n + 1, e, i :: is, d :: ds, off => bif Nat.beq (i * P.cellsOf e) off then (match cellsD n e d with
    | some l => (match elemsD n e is ds (off + l.length) with | some r => some (l ++ r) | none => none)
    | none => none) else none
  | _ + 1, _, [], [], _ => some []
  | _, _, _, _, _ => none
end
end

/-- cells from a place on stand for these values -/
def Cov (f : Inj) (l : List AVal) (cs : List Value) (off : Nat) : Prop := ∀ k v, l[k]? = some v → ∃ v', cs[off + k]? = some v' ∧ VRel f v v'
theorem Cov.append {f : Inj} {l r : List AVal} {cs : List Value} {off : Nat} (h : Cov f l cs off) (g : Cov f r cs (off + l.length)) : Cov f (l ++ r) cs off := by
  intro k v hv
  rw [List.getElem?_append] at hv
  split at hv
  · exact h k v hv
  · obtain ⟨v', a, b⟩ := g _ v hv
    exact ⟨v', by rw [← a]; congr 1; omega, b⟩
theorem Cov.part {f : Inj} {l : List AVal} {cs : List Value} {off n : Nat} (h : Cov f l ((cs.drop off).take n) 0) : Cov f l cs off := by
  intro k v hv
  obtain ⟨v', a, b⟩ := h k v hv
  refine ⟨v', ?_, b⟩
  rw [List.getElem?_take] at a
  split at a
  · rw [List.getElem?_drop] at a; simpa using a
  · simp at a
theorem Cov.nil {f : Inj} {cs : List Value} {off : Nat} : Cov f [] cs off := by intro k v h; simp at h
theorem Cov.one {f : Inj} {a : AVal} {x : Value} (h : VRel f a x) : Cov f [a] [x] 0 := by
  intro k v hv
  cases k with
  | zero => simp at hv; subst hv; exact ⟨x, rfl, h⟩
  | succ k => simp at hv

theorem mapM_cons_some {α β : Type} {f : α → Option β} {a : α} {l : List α} {r : List β} (h : (a :: l).mapM f = some r) : ∃ b bs, f a = some b ∧ l.mapM f = some bs ∧ r = b :: bs := by
  rw [List.mapM_cons] at h
  cases ha : f a with
  | none => rw [ha] at h; simp at h
  | some b =>
    rw [ha] at h
    cases hl : l.mapM f with
    | none => rw [hl] at h; simp at h
    | some bs => rw [hl] at h; simp at h; exact ⟨b, bs, rfl, rfl, h.symm⟩

variable {P : Program}
theorem beqKind_eq {j k : IntKind} (h : beqKind j k = true) : j = k := by cases j <;> cases k <;> first | rfl | simp [beqKind] at h

theorem cellsD_ok {f : Inj} {w : World} {base : Nat} {spare : Nat → Bool} {enc : TypeId × Value → Unit} : ∀ n : Nat,
    (∀ t d l, cellsD P n t d = some l → ∀ fuel cs ps, DataW.trod enc P w base spare false fuel t cs = some (d, ps) → Cov f l cs 0) ∧
    (∀ fs ds off l, fieldsD P n fs ds off = some l → ∀ fuel cs xs, (fs.mapM fun g => DataW.trod enc P w base spare false fuel g.type ((cs.drop g.offset).take (P.cellsOf g.type))) = some xs → xs.map (·.1) = ds → Cov f l cs off) ∧
    (∀ e is ds off l, elemsD P n e is ds off = some l → ∀ fuel cs xs, (is.mapM fun i => DataW.trod enc P w base spare false fuel e ((cs.drop (i * P.cellsOf e)).take (P.cellsOf e))) = some xs → xs.map (·.1) = ds → Cov f l cs off) := by
  intro n
  induction n with
  | zero => exact ⟨fun _ _ _ h => by simp [cellsD] at h, fun _ _ _ _ h => by simp [fieldsD] at h, fun _ _ _ _ _ h => by simp [elemsD] at h⟩
  | succ n ih =>
    obtain ⟨ih1, ih2, ih3⟩ := ih
    refine ⟨?_, ?_, ?_⟩
    · intro t d l h fuel cs ps ht
      cases fuel with
      | zero => simp [DataW.trod] at ht
      | succ fuel =>
        unfold cellsD at h
        split at h
        · rename_i b hu
          simp at h; subst h
          unfold DataW.trod at ht; rw [hu] at ht
          split at ht <;> simp_all
          exact Cov.one (by rw [VRel])
        · rename_i k j m hu
          rw [cond_eq] at h
          split at h
          · rename_i hk
            have hk := beqKind_eq hk
            subst hk
            simp at h; subst h
            unfold DataW.trod at ht; rw [hu] at ht
            split at ht <;> simp_all
            exact Cov.one (by rw [VRel])
          · simp at h
        · rename_i s hu
          simp at h; subst h
          unfold DataW.trod at ht; rw [hu] at ht
          split at ht <;> simp_all
          rename_i s'
          exact Cov.one (by rw [VRel]; exact ⟨s', rfl, by rw [bytesOf]; simp [ht]⟩)
        · rename_i fs ds hu
          unfold DataW.trod at ht; rw [hu] at ht
          split at ht <;> try (simp_all; done)
          rename_i fs' heq
          obtain rfl : fs = fs' := by simpa using heq
          split at ht
          · obtain ⟨xs, hx1, hx2⟩ := Option.map_eq_some_iff.1 ht
            simp only [Prod.mk.injEq, DataW.agg.injEq] at hx2
            exact ih2 _ _ _ _ h fuel _ xs hx1 hx2.1
          · simp at ht
        · rename_i m e ds hu
          unfold DataW.trod at ht; rw [hu] at ht
          split at ht <;> try (simp_all; done)
          rename_i m' e' heq
          obtain ⟨rfl, rfl⟩ : m = m' ∧ e = e' := by simpa using heq
          split at ht
          · obtain ⟨xs, hx1, hx2⟩ := Option.map_eq_some_iff.1 ht
            simp only [Prod.mk.injEq, DataW.agg.injEq] at hx2
            exact ih3 _ _ _ _ _ h fuel _ xs hx1 hx2.1
          · simp at ht
        · simp at h
    · intro fs ds off l h fuel cs xs hx hd
      cases fs with
      | nil =>
        cases ds with
        | nil => simp [fieldsD] at h; subst h; exact Cov.nil
        | cons _ _ => simp [fieldsD] at h
      | cons g fs =>
        cases ds with
        | nil => simp [fieldsD] at h
        | cons d ds =>
          unfold fieldsD at h; rw [cond_eq] at h
          split at h
          · rename_i ho
            have ho := Nat.eq_of_beq_eq_true ho
            subst ho
            split at h
            · rename_i l1 h1
              split at h
              · rename_i r1 h2
                simp at h; subst h
                obtain ⟨x, xs', hx1, hx2, rfl⟩ := mapM_cons_some hx
                simp only [List.map_cons, List.cons.injEq] at hd
                obtain ⟨rfl, rfl⟩ := hd
                exact (Cov.part (ih1 _ _ _ h1 fuel _ x.2 hx1)).append (ih2 _ _ _ _ h2 fuel cs xs' hx2 rfl)
              · simp at h
            · simp at h
          · simp at h
    · intro e is ds off l h fuel cs xs hx hd
      cases is with
      | nil =>
        cases ds with
        | nil => simp [elemsD] at h; subst h; exact Cov.nil
        | cons _ _ => simp [elemsD] at h
      | cons g is =>
        cases ds with
        | nil => simp [elemsD] at h
        | cons d ds =>
          unfold elemsD at h; rw [cond_eq] at h
          split at h
          · rename_i ho
            have ho := Nat.eq_of_beq_eq_true ho
            subst ho
            split at h
            · rename_i l1 h1
              split at h
              · rename_i r1 h2
                simp at h; subst h
                obtain ⟨x, xs', hx1, hx2, rfl⟩ := mapM_cons_some hx
                simp only [List.map_cons, List.cons.injEq] at hd
                obtain ⟨rfl, rfl⟩ := hd
                exact (Cov.part (ih1 _ _ _ h1 fuel _ x.2 hx1)).append (ih3 _ _ _ _ _ h2 fuel cs xs' hx2 rfl)
              · simp at h
            · simp at h
          · simp at h

/-! ## the listed variables, as the evaluator's low layer -/
def lowsOf (P : Program) : List (String × DataW Unit) → Option (List (Nat × List AVal))
  | [] => some []
  | (n, d) :: r => match P.globalNamed n with
    | some g => (match P.globals[g]? with
      | some x => (match cellsD P 200 x.type d with
        | some (v :: c) => bif Nat.blt g 32 then (match lowsOf P r with | some l => some ((g, v :: c) :: l) | none => none) else none
        | _ => none)
      | none => none)
    | none => none
def lowTree : List (Nat × List AVal) → PTree AObj
  | [] => .leaf
  | x :: l => (lowTree l).put (posOf x.1) (.cells x.2 0 false true)
theorem lowTree_mem : ∀ {l : List (Nat × List AVal)} {p : Pos} {o : AObj}, (lowTree l).get p = some o → ∃ x ∈ l, p = posOf x.1 ∧ o = .cells x.2 0 false true := by
  intro l
  induction l with
  | nil => intro p o h; rw [lowTree] at h; cases p <;> simp [PTree.get] at h
  | cons x l ih =>
    intro p o h
    rw [lowTree, PTree.get_put] at h
    split at h
    · rename_i he; simp at h; exact ⟨x, List.mem_cons_self, he.symm, h.symm⟩
    · obtain ⟨y, a, b⟩ := ih h; exact ⟨y, List.mem_cons_of_mem _ a, b⟩

theorem row_mem {a : Addr} {n : Nat} (ha : a = ⟨a.block, 0, none⟩) (hn : 0 < n) : MemPlace.cell a.block 0 ∈ MemPlace.row a n := by
  rw [ha]; unfold MemPlace.row; simp [hn]

theorem lows_ok {f : Inj} {w : World} : ∀ {laid : List (String × DataW Unit)} {ps : List MemPlace} {l : List (Nat × List AVal)}, DataW.LaidVars P w laid ps → lowsOf P laid = some l →
    (∀ b off, MemPlace.cell b off ∈ ps → ∃ c t, w.heap[b]? = some (.cells c t (0, 0))) →
    ∀ x ∈ l, x.1 < 32 ∧ ∃ cs e, w.heap[x.1]? = some (.cells cs e (0, 0)) ∧ CRel f 0 x.2 cs := by
  intro laid
  induction laid with
  | nil => intro ps l h hl hz x hx; simp [lowsOf] at hl; subst hl; simp at hx
  | cons nd laid ih =>
    intro ps l h hl hz x hx
    obtain ⟨n, d⟩ := nd
    obtain ⟨g, t, cs, fuel, p, q, hg, ht, hv, hd, hr, rfl⟩ := h
    rw [lowsOf] at hl
    simp only [hg] at hl
    cases hgl : P.globals[g]? with
    | none => simp only [hgl] at hl; simp at hl
    | some gx =>
      simp only [hgl] at hl
      rw [hgl] at ht
      simp at ht; subst ht
      split at hl
      · rename_i v c hc
        rw [cond_eq] at hl
        split at hl
        · rename_i hlt
          split at hl
          · rename_i l' hl'
            simp at hl; subst hl
            have hcov := (cellsD_ok (f := f) (w := w) (base := 0) (spare := fun _ => true) (enc := fun _ => ()) 200).1 _ _ _ hc fuel cs.toList p hd
            cases hx with
            | head =>
              have hlt : g < 32 := Nat.lt_of_succ_le (Nat.le_of_ble_eq_true hlt)
              refine ⟨hlt, ?_⟩
              unfold World.var? at hv
              rw [hg] at hv
              simp only [Option.bind_some] at hv
              cases hh : w.heap[g]? with
              | none => rw [hh] at hv; simp at hv
              | some ob =>
                rw [hh] at hv
                cases ob <;> simp at hv
                rename_i cs' e fz
                subst hv
                obtain ⟨v', hv', _⟩ := hcov 0 v rfl
                have hsz : 0 < cs'.size := by
                  rcases Nat.eq_zero_or_pos cs'.size with h0 | h0
                  · simp [Array.size_eq_zero_iff.1 h0] at hv'
                  · exact h0
                obtain ⟨c2, t2, h2⟩ := hz g 0 (List.mem_append_left _ (List.mem_append_left _ (row_mem (a := ⟨g, 0, none⟩) rfl hsz)))
                rw [hh] at h2
                simp at h2
                obtain ⟨rfl, rfl, rfl⟩ := h2
                refine ⟨cs', e, rfl, ?_⟩
                intro k y hy
                obtain ⟨v'', a, b⟩ := hcov k y hy
                exact ⟨v'', by simpa using a, b⟩
            | tail _ hx => exact ih hr hl' (fun b off hb => hz b off (List.mem_append_right _ hb)) x hx
          · simp at hl
        · simp at hl
      · simp at hl

/-! ## the start -/
def startInj : Inj := fun p => if p.toNat ≤ 32 then some ⟨p.toNat - 1, 0, 0⟩ else none
def startKeep (w : World) : Keep := ⟨fun b => b < w.heap.size, fun b => b < w.heap.size, fun _ => False, w⟩
theorem startInj_glob : GRel startInj := by
  intro g hg
  refine ⟨⟨g, 0, 0⟩, ?_, rfl, rfl⟩
  unfold startInj
  rw [toNat_posOf, if_pos (by omega)]
  rfl
theorem start_heap_of {l : List (Nat × List AVal)} {w : World} (hall : ∀ x ∈ l, x.1 < 32 ∧ ∃ cs e, w.heap[x.1]? = some (.cells cs e (0, 0)) ∧ CRel startInj 0 x.2 cs) :
    HRel (startKeep w) startInj (lowGet [lowTree l]) (posOf 32) w := by
  have hobj : ∀ i o, lowGet [lowTree l] i = some o → ∃ x ∈ l, i = posOf x.1 ∧ o = .cells x.2 0 false true := by
    intro i o ho
    apply lowTree_mem
    simp only [lowGet] at ho
    split at ho
    · rename_i o' h'; rw [h', ← ho]
    · simp at ho
  have hinj : ∀ x : Nat, x < 32 → startInj (posOf x) = some ⟨x, 0, 0⟩ := by
    intro x hx
    unfold startInj
    rw [toNat_posOf, if_pos (by omega)]
    rfl
  refine ⟨?_, ?_, ?_, ?_, fun b hb => hb, fun i hi => hi.elim, fun b hb => ⟨hb, rfl⟩, Nat.le_refl _, rfl, rfl, rfl⟩
  · intro i o ho _
    obtain ⟨x, hx, rfl, rfl⟩ := hobj i o ho
    obtain ⟨a, cs, e, b, c⟩ := hall x hx
    refine ⟨⟨x.1, 0, 0⟩, _, hinj _ a, b, cs, e, (0, 0), rfl, c, ?_, ?_, ?_⟩
    · intro k _; simp
    · intro h; exact absurd rfl h
    · intro _; exact Nat.le_refl _
  · intro i j oi oj p q hi hj _ _ hij hp hq
    obtain ⟨x, hx, rfl, rfl⟩ := hobj i oi hi
    obtain ⟨y, hy, rfl, rfl⟩ := hobj j oj hj
    rw [hinj _ (hall x hx).1] at hp
    rw [hinj _ (hall y hy).1] at hq
    cases hp; cases hq
    intro he
    exact hij (by simp only at he; rw [he])
  · intro i p hp
    unfold startInj at hp
    split at hp
    · rw [toNat_posOf]; omega
    · simp at hp
  · intro i o p ho _ hp _
    obtain ⟨x, hx, rfl, rfl⟩ := hobj i o ho
    obtain ⟨a, cs, e, b, c⟩ := hall x hx
    rw [hinj _ a] at hp
    cases hp
    exact ⟨rfl, (Array.getElem?_eq_some_iff.1 b).1⟩
theorem start_all {laid : List (String × DataW Unit)} {l : List (Nat × List AVal)} {w : World} (h : laidMet P laid w) (hl : lowsOf P laid = some l) :
    ∀ x ∈ l, x.1 < 32 ∧ ∃ cs e, w.heap[x.1]? = some (.cells cs e (0, 0)) ∧ CRel startInj 0 x.2 cs := by
  obtain ⟨ps, h1, _, h2⟩ := h
  exact lows_ok (f := startInj) h1 hl (fun b off hb => (h2 b off hb).1)
theorem start_heap {laid : List (String × DataW Unit)} {l : List (Nat × List AVal)} {w : World} (h : laidMet P laid w) (hl : lowsOf P laid = some l) :
    HRel (startKeep w) startInj (lowGet [lowTree l]) (posOf 32) w := start_heap_of (start_all h hl)
/-- what is listed lies there still, where the old blocks are as they were -/
theorem start_heap_later {laid : List (String × DataW Unit)} {l : List (Nat × List AVal)} {w w' : World} (h : laidMet P laid w) (hl : lowsOf P laid = some l) (hk : ∀ i : Nat, i < w.heap.size → w'.heap[i]? = w.heap[i]?) :
    HRel (startKeep w') startInj (lowGet [lowTree l]) (posOf 32) w' :=
  start_heap_of fun x hx => by
    obtain ⟨a, cs, e, b, c⟩ := start_all h hl x hx
    exact ⟨a, cs, e, by rw [hk _ (Array.getElem?_eq_some_iff.1 b).1]; exact b, c⟩
end Go.Abs

