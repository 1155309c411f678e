/- Own work: an evaluator of closed runs over the model, and why it is right. Part of the proof; holds for any program. -/
import Derived.KernelRfl
import Derived.Test.YtjbcjoeedlabkaaGreatDoorAbs3
set_option linter.unusedVariables false
set_option linter.unusedSimpArgs false
set_option linter.unusedSectionVars false
namespace Go.Abs
set_option linter.unusedVariables false
theorem nbq (a b : Nat) (h : Nat.beq (Nat.land (nat_lit 1) (Nat.shiftRight a b)) (nat_lit 1) = false) : Nat.hasNotBit a b := Nat.ne_of_beq_eq_false h
theorem testBit_beq (m n : Nat) : Nat.testBit m n = Nat.beq (Nat.land (Nat.shiftRight m n) 1) 1 := by
  have h : Nat.land (Nat.shiftRight m n) 1 = m >>> n % 2 := Nat.and_one_is_mod _
  rw [h, Nat.testBit_eq_decide_div_mod_eq, Nat.shiftRight_eq_div_pow]
  cases hb : Nat.beq (m / 2 ^ n % 2) 1 with
  | true => simp [Nat.eq_of_beq_eq_true hb]
  | false => simp [Nat.ne_of_beq_eq_false hb]
noncomputable def FPTree_get : ((x0 : Type) → (Pos → ((PTree x0) → (Option x0)))) :=
  (fun x0 x1 => @Pos.rec.{1} (fun _ => ((PTree x0) → (Option x0))) (fun x2 => @PTree.rec.{1} x0 (fun _ => Option x0) (@Option.none x0) (fun _ x4 _ _ _ => x4) x2) (fun _ x3 x4 => @PTree.rec.{1} x0 (fun _ => Option x0) (@Option.none x0) (fun x5 _ _ _ _ => x3 x5) x4) (fun _ x3 x4 => @PTree.rec.{1} x0 (fun _ => Option x0) (@Option.none x0) (fun _ _ x7 _ _ => x3 x7) x4) x1)
theorem FPTree_get_eq : @FPTree_get = @Go.Abs.PTree.get := by
  funext p0 p1
  refine @Go.Abs.Pos.rec  (fun x => @FPTree_get p0 x = @Go.Abs.PTree.get p0 x) ?_ ?_ ?_ p1
  · skip
    refine Eq.trans (show (@FPTree_get p0 (@Go.Abs.Pos.H )) = (fun x0 => @PTree.rec.{1} p0 (fun _ => Option p0) (@Option.none p0) (fun _ x2 _ _ _ => x2) x0) by kernel_rfl) ?_
    kernel_rfl
  · intro f0 h0
    refine Eq.trans (show (@FPTree_get p0 (@Go.Abs.Pos.O f0)) = (fun x0 => @PTree.rec.{1} p0 (fun _ => Option p0) (@Option.none p0) (fun x1 _ _ _ _ => (@FPTree_get p0 f0) x1) x0) by kernel_rfl) ?_
    generalize (@FPTree_get p0 f0) = r0 at h0 ⊢
    subst h0
    kernel_rfl
  · intro f0 h0
    refine Eq.trans (show (@FPTree_get p0 (@Go.Abs.Pos.I f0)) = (fun x0 => @PTree.rec.{1} p0 (fun _ => Option p0) (@Option.none p0) (fun _ _ x3 _ _ => (@FPTree_get p0 f0) x3) x0) by kernel_rfl) ?_
    generalize (@FPTree_get p0 f0) = r0 at h0 ⊢
    subst h0
    kernel_rfl
noncomputable def FposAux : (Nat → (Nat → Pos)) :=
  (fun x0 => @Nat.rec.{1} (fun _ => (Nat → Pos)) (fun _ => Pos.H) (fun _ x2 x3 => @Bool.rec.{1} (fun _ => Pos) (@Bool.rec.{1} (fun _ => Pos) (Pos.I (x2 (Nat.div x3 (nat_lit 2)))) (Pos.O (x2 (Nat.div x3 (nat_lit 2)))) (Nat.beq (Nat.mod x3 (nat_lit 2)) (nat_lit 0))) Pos.H (Nat.ble x3 (nat_lit 1))) x0)
theorem FposAux_eq : @FposAux = @Go.Abs.posAux := by
  funext p0
  refine @Nat.rec  (fun x => @FposAux x = @Go.Abs.posAux x) ?_ ?_ p0
  · skip
    refine Eq.trans (show (@FposAux (@Nat.zero )) = (fun _ => Pos.H) by kernel_rfl) ?_
    kernel_rfl
  · intro f0 h0
    refine Eq.trans (show (@FposAux (@Nat.succ f0)) = (fun x0 => @Bool.rec.{1} (fun _ => Pos) (@Bool.rec.{1} (fun _ => Pos) (Pos.I ((@FposAux f0) (Nat.div x0 (nat_lit 2)))) (Pos.O ((@FposAux f0) (Nat.div x0 (nat_lit 2)))) (Nat.beq (Nat.mod x0 (nat_lit 2)) (nat_lit 0))) Pos.H (Nat.ble x0 (nat_lit 1))) by kernel_rfl) ?_
    generalize (@FposAux f0) = r0 at h0 ⊢
    subst h0
    kernel_rfl
noncomputable def FposOf : (Nat → Pos) :=
  (fun x0 => FposAux (Nat.succ x0) (Nat.succ x0))
theorem FposOf_eq : @FposOf = @Go.Abs.posOf := by
  delta FposOf
  rw [FposAux_eq]; kernel_rfl
noncomputable def Frget : ((List (Prod Nat AVal)) → (Nat → (Option AVal))) :=
  (fun x0 => @List.rec.{1, 0} _ (fun _ => (Nat → (Option AVal))) (fun _ => @Option.none _) (fun x1 _ x3 x4 => @Bool.rec.{1} (fun _ => Option AVal) (x3 x4) (@Option.some _ x1.2) (Nat.beq x1.1 x4)) x0)
theorem Frget_eq : @Frget = @Go.Abs.rget := by
  funext p0
  refine @List.rec _ (fun x => @Frget x = @Go.Abs.rget x) ?_ ?_ p0
  · skip
    refine Eq.trans (show (@Frget (@List.nil _)) = (fun _ => @Option.none _) by kernel_rfl) ?_
    kernel_rfl
  · intro f0 f1 h0
    refine Eq.trans (show (@Frget (@List.cons _ f0 f1)) = (fun x0 => @Bool.rec.{1} (fun _ => Option AVal) ((@Frget f1) x0) (@Option.some _ f0.2) (Nat.beq f0.1 x0)) by kernel_rfl) ?_
    generalize (@Frget f1) = r0 at h0 ⊢
    subst h0
    kernel_rfl
noncomputable def FEnv_get : (Env → (Nat → (Option AVal))) :=
  (fun x0 x1 => @Option.rec.{1, 0} _ (fun _ => Option AVal) (FPTree_get AVal (FposOf x1) (Env.tm x0)) (fun x2 => @Option.some _ x2) (Frget (Env.rc x0) x1))
theorem FEnv_get_eq : @FEnv_get = @Go.Abs.Env.get := by
  delta FEnv_get
  rw [FPTree_get_eq, FposOf_eq, Frget_eq]; kernel_rfl
noncomputable def FlowGet : ((List (PTree AObj)) → (Pos → (Option AObj))) :=
  (fun x0 => @List.rec.{1, 0} _ (fun _ => (Pos → (Option AObj))) (fun _ => @Option.none _) (fun x1 _ x3 x4 => @Option.rec.{1, 0} _ (fun _ => Option AObj) (x3 x4) (fun x5 => @Option.some _ x5) (FPTree_get AObj x4 x1)) x0)
theorem FlowGet_eq : @FlowGet = @Go.Abs.lowGet := by
  funext p0
  refine @List.rec _ (fun x => @FlowGet x = @Go.Abs.lowGet x) ?_ ?_ p0
  · skip
    refine Eq.trans (show (@FlowGet (@List.nil _)) = (fun _ => @Option.none _) by kernel_rfl) ?_
    kernel_rfl
  · intro f0 f1 h0
    refine Eq.trans (show (@FlowGet (@List.cons _ f0 f1)) = (fun x0 => @Option.rec.{1, 0} _ (fun _ => Option AObj) ((@FlowGet f1) x0) (fun x1 => @Option.some _ x1) (FPTree_get AObj x0 f0)) by kernel_rfl) ?_
    generalize (@FlowGet f1) = r0 at h0 ⊢
    subst h0
    rw [FPTree_get_eq]
    kernel_rfl
noncomputable def Fhget : ((List (PTree AObj)) → (Heap → (Pos → (Option AObj)))) :=
  (fun x0 x1 x2 => @Option.rec.{1, 0} _ (fun _ => Option AObj) (FlowGet x0 x2) (fun x3 => @Option.some _ x3) (FPTree_get AObj x2 (Heap.top x1)))
theorem Fhget_eq : @Fhget = @Go.Abs.hget := by
  delta Fhget
  rw [FlowGet_eq, FPTree_get_eq]; kernel_rfl
noncomputable def FcellsAt_0 : (AObj → (Option (List AVal))) :=
  (fun x0 => @AObj.rec.{1} (fun x1 => (((Nat.hasNotBit (nat_lit 1) (AObj.ctorIdx x1)) → (Option (List AVal))) → (Option (List AVal)))) (fun x1 x2 x3 x4 _ => @Option.some _ x1) (fun x1 x2 x3 => x3 (nbq (nat_lit 1) (nat_lit 1) rfl)) (fun x1 x2 x3 => x3 (nbq (nat_lit 1) (nat_lit 2) rfl)) (fun x1 x2 x3 x4 => x4 (nbq (nat_lit 1) (nat_lit 3) rfl)) (fun x1 x2 => x2 (nbq (nat_lit 1) (nat_lit 4) rfl)) (fun x1 x2 => x2 (nbq (nat_lit 1) (nat_lit 5) rfl)) (fun x1 => x1 (nbq (nat_lit 1) (nat_lit 6) rfl)) x0 (fun _ => @Option.none _))
noncomputable def FcellsAt : ((List (PTree AObj)) → (Heap → (Pos → (Option (List AVal))))) :=
  (fun x0 x1 x2 => @Option.rec.{1, 0} _ (fun x3 => (((Nat.hasNotBit (nat_lit 2) (@Option.ctorIdx AObj x3)) → (Option (List AVal))) → (Option (List AVal)))) (fun x3 => x3 (nbq (nat_lit 2) (nat_lit 0) rfl)) (fun x3 _ => FcellsAt_0 x3) (Fhget x0 x1 x2) (fun _ => @Option.none _))
theorem FcellsAt_eq : @FcellsAt = @Go.Abs.cellsAt := by
  delta FcellsAt
  delta FcellsAt_0
  rw [Fhget_eq]; kernel_rfl
noncomputable def Fund_0 : (AProg → (Go.TypeInfo → (Option Go.TypeDesc))) :=
  (fun x0 x1 => @Go.TypeDesc.rec.{1} (fun x2 => (((Nat.hasNotBit (nat_lit 65536) (Go.TypeDesc.ctorIdx x2)) → (Option Go.TypeDesc)) → (Option Go.TypeDesc))) (fun x2 => x2 (nbq (nat_lit 65536) (nat_lit 0) rfl)) (fun x2 => x2 (nbq (nat_lit 65536) (nat_lit 1) rfl)) (fun x2 x3 => x3 (nbq (nat_lit 65536) (nat_lit 2) rfl)) (fun x2 x3 => x3 (nbq (nat_lit 65536) (nat_lit 3) rfl)) (fun x2 x3 => x3 (nbq (nat_lit 65536) (nat_lit 4) rfl)) (fun x2 => x2 (nbq (nat_lit 65536) (nat_lit 5) rfl)) (fun x2 => x2 (nbq (nat_lit 65536) (nat_lit 6) rfl)) (fun x2 x3 => x3 (nbq (nat_lit 65536) (nat_lit 7) rfl)) (fun x2 x3 => x3 (nbq (nat_lit 65536) (nat_lit 8) rfl)) (fun x2 x3 x4 => x4 (nbq (nat_lit 65536) (nat_lit 9) rfl)) (fun x2 x3 x4 => x4 (nbq (nat_lit 65536) (nat_lit 10) rfl)) (fun x2 x3 x4 => x4 (nbq (nat_lit 65536) (nat_lit 11) rfl)) (fun x2 x3 => x3 (nbq (nat_lit 65536) (nat_lit 12) rfl)) (fun x2 x3 x4 x5 => x5 (nbq (nat_lit 65536) (nat_lit 13) rfl)) (fun x2 x3 => x3 (nbq (nat_lit 65536) (nat_lit 14) rfl)) (fun x2 x3 => x3 (nbq (nat_lit 65536) (nat_lit 15) rfl)) (fun x2 x3 _ => @Option.rec.{1, 0} _ (fun _ => Option Go.TypeDesc) (@Option.none _) (fun x5 => @Option.some _ (Go.TypeInfo.desc x5)) (FPTree_get Go.TypeInfo (FposOf x3) (AProg.types x0))) (Go.TypeInfo.desc x1) (fun _ => @Option.some _ (Go.TypeInfo.desc x1)))
noncomputable def Fund : (AProg → (Go.TypeId → (Option Go.TypeDesc))) :=
  (fun x0 x1 => @Option.rec.{1, 0} _ (fun _ => Option Go.TypeDesc) (@Option.none _) (fun x2 => Fund_0 x0 x2) (FPTree_get Go.TypeInfo (FposOf x1) (AProg.types x0)))
theorem Fund_eq : @Fund = @Go.Abs.und := by
  delta Fund
  delta Fund_0
  rw [FPTree_get_eq, FposOf_eq]; kernel_rfl
noncomputable def FisAggA_0 : (Go.TypeDesc → (Option Bool)) :=
  (fun x0 => @Go.TypeDesc.rec.{1} (fun x1 => (((Nat.hasNotBit (nat_lit 4608) (Go.TypeDesc.ctorIdx x1)) → (Option Bool)) → (Option Bool))) (fun x1 => x1 (nbq (nat_lit 4608) (nat_lit 0) rfl)) (fun x1 => x1 (nbq (nat_lit 4608) (nat_lit 1) rfl)) (fun x1 x2 => x2 (nbq (nat_lit 4608) (nat_lit 2) rfl)) (fun x1 x2 => x2 (nbq (nat_lit 4608) (nat_lit 3) rfl)) (fun x1 x2 => x2 (nbq (nat_lit 4608) (nat_lit 4) rfl)) (fun x1 => x1 (nbq (nat_lit 4608) (nat_lit 5) rfl)) (fun x1 => x1 (nbq (nat_lit 4608) (nat_lit 6) rfl)) (fun x1 x2 => x2 (nbq (nat_lit 4608) (nat_lit 7) rfl)) (fun x1 x2 => x2 (nbq (nat_lit 4608) (nat_lit 8) rfl)) (fun x1 x2 _ => @Option.some _ Bool.true) (fun x1 x2 x3 => x3 (nbq (nat_lit 4608) (nat_lit 10) rfl)) (fun x1 x2 x3 => x3 (nbq (nat_lit 4608) (nat_lit 11) rfl)) (fun x1 _ => @Option.some _ Bool.true) (fun x1 x2 x3 x4 => x4 (nbq (nat_lit 4608) (nat_lit 13) rfl)) (fun x1 x2 => x2 (nbq (nat_lit 4608) (nat_lit 14) rfl)) (fun x1 x2 => x2 (nbq (nat_lit 4608) (nat_lit 15) rfl)) (fun x1 x2 x3 => x3 (nbq (nat_lit 4608) (nat_lit 16) rfl)) x0 (fun _ => @Option.some _ Bool.false))
noncomputable def FisAggA : (AProg → (Go.TypeId → (Option Bool))) :=
  (fun x0 x1 => @Option.rec.{1, 0} _ (fun _ => Option Bool) (@Option.none _) (fun x2 => FisAggA_0 x2) (Fund x0 x1))
theorem FisAggA_eq : @FisAggA = @Go.Abs.isAggA := by
  delta FisAggA
  delta FisAggA_0
  rw [Fund_eq]; kernel_rfl
noncomputable def FsizeA : (AProg → (Go.TypeId → (Option Nat))) :=
  (fun x0 x1 => @Option.rec.{1, 0} _ (fun _ => Option Nat) (@Option.none _) (fun x2 => @Option.some _ (Go.TypeInfo.size x2)) (FPTree_get Go.TypeInfo (FposOf x1) (AProg.types x0)))
theorem FsizeA_eq : @FsizeA = @Go.Abs.sizeA := by
  delta FsizeA
  rw [FPTree_get_eq, FposOf_eq]; kernel_rfl
noncomputable def FtakeN_0 : ((x0 : Type) → (((List x0) → (Option (List x0))) → ((List x0) → (Option (List x0))))) :=
  (fun x0 x1 x2 => @List.rec.{1, 0} x0 (fun _ => Option (List x0)) (@Option.none (List x0)) (fun x3 x4 _ => @Option.rec.{1, 0} (List x0) (fun _ => Option (List x0)) (@Option.none (List x0)) (fun x6 => @Option.some (List x0) (@List.cons x0 x3 x6)) (x1 x4)) x2)
noncomputable def FtakeN : ((x0 : Type) → (Nat → ((List x0) → (Option (List x0))))) :=
  (fun x0 x1 => @Nat.rec.{1} (fun _ => ((List x0) → (Option (List x0)))) (fun _ => @Option.some (List x0) (@List.nil x0)) (fun _ x3 x4 => @FtakeN_0 x0 x3 x4) x1)
theorem FtakeN_eq : @FtakeN = @Go.Abs.takeN := by
  funext p0 p1
  refine @Nat.rec  (fun x => @FtakeN p0 x = @Go.Abs.takeN p0 x) ?_ ?_ p1
  · skip
    refine Eq.trans (show (@FtakeN p0 (@Nat.zero )) = (fun _ => @Option.some (List p0) (@List.nil p0)) by kernel_rfl) ?_
    kernel_rfl
  · intro f0 h0
    refine Eq.trans (show (@FtakeN p0 (@Nat.succ f0)) = (fun x0 => @FtakeN_0 p0 (@FtakeN p0 f0) x0) by kernel_rfl) ?_
    delta FtakeN_0
    generalize (@FtakeN p0 f0) = r0 at h0 ⊢
    subst h0
    kernel_rfl
noncomputable def FdropN : ((x0 : Type) → (Nat → ((List x0) → (List x0)))) :=
  (fun x0 x1 => @Nat.rec.{1} (fun _ => ((List x0) → (List x0))) (fun x2 => x2) (fun _ x3 x4 => @List.rec.{1, 0} x0 (fun _ => List x0) (@List.nil x0) (fun _ x6 _ => x3 x6) x4) x1)
theorem FdropN_eq : @FdropN = @Go.Abs.dropN := by
  funext p0 p1
  refine @Nat.rec  (fun x => @FdropN p0 x = @Go.Abs.dropN p0 x) ?_ ?_ p1
  · skip
    refine Eq.trans (show (@FdropN p0 (@Nat.zero )) = (fun x0 => x0) by kernel_rfl) ?_
    kernel_rfl
  · intro f0 h0
    refine Eq.trans (show (@FdropN p0 (@Nat.succ f0)) = (fun x0 => @List.rec.{1, 0} p0 (fun _ => List p0) (@List.nil p0) (fun _ x2 _ => (@FdropN p0 f0) x2) x0) by kernel_rfl) ?_
    generalize (@FdropN p0 f0) = r0 at h0 ⊢
    subst h0
    kernel_rfl
noncomputable def Fnth : ((x0 : Type) → (Nat → ((List x0) → (Option x0)))) :=
  (fun x0 x1 => @Nat.rec.{1} (fun _ => ((List x0) → (Option x0))) (fun x2 => @List.rec.{1, 0} x0 (fun _ => Option x0) (@Option.none x0) (fun x3 _ _ => @Option.some x0 x3) x2) (fun _ x3 x4 => @List.rec.{1, 0} x0 (fun _ => Option x0) (@Option.none x0) (fun _ x6 _ => x3 x6) x4) x1)
theorem Fnth_eq : @Fnth = @Go.Abs.nth := by
  funext p0 p1
  refine @Nat.rec  (fun x => @Fnth p0 x = @Go.Abs.nth p0 x) ?_ ?_ p1
  · skip
    refine Eq.trans (show (@Fnth p0 (@Nat.zero )) = (fun x0 => @List.rec.{1, 0} p0 (fun _ => Option p0) (@Option.none p0) (fun x1 _ _ => @Option.some p0 x1) x0) by kernel_rfl) ?_
    kernel_rfl
  · intro f0 h0
    refine Eq.trans (show (@Fnth p0 (@Nat.succ f0)) = (fun x0 => @List.rec.{1, 0} p0 (fun _ => Option p0) (@Option.none p0) (fun _ x2 _ => (@Fnth p0 f0) x2) x0) by kernel_rfl) ?_
    generalize (@Fnth p0 f0) = r0 at h0 ⊢
    subst h0
    kernel_rfl
noncomputable def FpartA_0 : (AProg → (Go.TypeId → ((List AVal) → (Nat → (Option AVal))))) :=
  (fun x0 x1 x2 x3 => @Option.rec.{1, 0} _ (fun _ => Option AVal) (@Option.none _) (fun x4 => @Option.rec.{1, 0} _ (fun _ => Option AVal) (@Option.none _) (fun x5 => @Option.some _ (AVal.agg x5)) (FtakeN AVal x4 (FdropN AVal x3 x2))) (FsizeA x0 x1))
noncomputable def FpartA : (AProg → (Go.TypeId → ((List AVal) → (Nat → (Option AVal))))) :=
  (fun x0 x1 x2 x3 => @Option.rec.{1, 0} _ (fun _ => Option AVal) (@Option.none _) (fun x4 => @Bool.rec.{1} (fun _ => Option AVal) (Fnth AVal x3 x2) (FpartA_0 x0 x1 x2 x3) x4) (FisAggA x0 x1))
theorem FpartA_eq : @FpartA = @Go.Abs.partA := by
  delta FpartA
  delta FpartA_0
  rw [Fnth_eq, FtakeN_eq, FdropN_eq, FsizeA_eq, FisAggA_eq]; kernel_rfl
noncomputable def FloadA : (AProg → ((List (PTree AObj)) → (Heap → (Go.TypeId → (Pos → (Nat → (Option AVal))))))) :=
  (fun x0 x1 x2 x3 x4 x5 => @Option.rec.{1, 0} _ (fun _ => Option AVal) (@Option.none _) (fun x6 => FpartA x0 x3 x6 x5) (FcellsAt x1 x2 x4))
theorem FloadA_eq : @FloadA = @Go.Abs.loadA := by
  delta FloadA
  rw [FpartA_eq, FcellsAt_eq]; kernel_rfl
noncomputable def Faresults_c (A : AProg) (L : List (PTree AObj)) (h : Heap) (t : Go.TypeId) (v : Option AVal) (ih : Option (List AVal)) : Option (List AVal) :=
  match v with
  | some (.ptr b off) => (match loadA A L h t b off, ih with | some v, some r => some (v :: r) | _, _ => none)
  | _ => none
noncomputable def Faresults : AProg → List (PTree AObj) → Heap → Env → List Go.ResultVar → Option (List AVal) :=
  fun A L h e l => @List.rec.{1, 0} _ (fun _ => Option (List AVal)) (some []) (fun x _ ih => @Go.ResultVar.rec.{1} (fun _ => Option (List AVal)) (fun t => @Option.rec.{1, 0} _ (fun _ => Option (List AVal)) none (fun v => @Option.rec.{1, 0} _ (fun _ => Option (List AVal)) none (fun r => some (v :: r)) ih) (FEnv_get e t)) (fun a t => Faresults_c A L h t (FEnv_get e a) ih) x) l
theorem Faresults_eq : @Faresults = @aresults := by
  funext A L h e l
  induction l with
  | nil => kernel_rfl
  | cons x l ih =>
    cases x with
    | tmp t =>
      refine Eq.trans (show Faresults A L h e (.tmp t :: l) = @Option.rec.{1, 0} _ (fun _ => Option (List AVal)) none (fun v => @Option.rec.{1, 0} _ (fun _ => Option (List AVal)) none (fun r => some (v :: r)) (Faresults A L h e l)) (FEnv_get e t) by kernel_rfl) ?_
      rw [ih, FEnv_get_eq, aresults]
      cases e.get t <;> cases aresults A L h e l <;> rfl
    | cell a t =>
      refine Eq.trans (show Faresults A L h e (.cell a t :: l) = Faresults_c A L h t (FEnv_get e a) (Faresults A L h e l) by kernel_rfl) ?_
      rw [ih, FEnv_get_eq, aresults]
      rfl
noncomputable def Fjoined : ((List AVal) → AVal) :=
  (fun x0 => @List.rec.{1, 0} _ (fun x1 => (((Nat.hasNotBit (nat_lit 2) (@List.ctorIdx AVal x1)) → AVal) → AVal)) (fun x1 => x1 (nbq (nat_lit 2) (nat_lit 0) rfl)) (fun x1 x2 _ _ => @List.rec.{1, 0} _ (fun x5 => (((Nat.hasNotBit (nat_lit 1) (@List.ctorIdx AVal x5)) → AVal) → AVal)) (fun _ => x1) (fun x5 x6 _ x8 => x8 (nbq (nat_lit 1) (nat_lit 1) rfl)) x2 (fun _ => AVal.tuple (@List.cons _ x1 x2))) x0 (fun _ => AVal.tuple x0))
theorem Fjoined_eq : @Fjoined = @Go.Abs.joined := by
  delta Fjoined
  kernel_rfl
noncomputable def Faresult : (AProg → ((List (PTree AObj)) → (Heap → (Go.FuncId → (Env → (Option AVal)))))) :=
  (fun x0 x1 x2 x3 x4 => @Option.rec.{1, 0} _ (fun _ => Option AVal) (@Option.none _) (fun x5 => @Option.rec.{1, 0} _ (fun _ => Option AVal) (@Option.none _) (fun x6 => @Option.some _ (Fjoined x6)) (Faresults x0 x1 x2 x4 (@Array.toList Go.ResultVar (Go.Func.results x5)))) (FPTree_get Go.Func (FposOf x3) (AProg.funcs x0)))
theorem Faresult_eq : @Faresult = @Go.Abs.aresult := by
  delta Faresult
  rw [Fjoined_eq, Faresults_eq, FPTree_get_eq, FposOf_eq]; kernel_rfl
noncomputable def Foverq_0 : (AProg → ((List (PTree AObj)) → (Heap → (FInfo → (Env → (Option (Prod AEnd Heap))))))) :=
  (fun x0 x1 x2 x3 x4 => @Option.rec.{1, 0} _ (fun x5 => (((Nat.hasNotBit (nat_lit 2) (@Option.ctorIdx AVal x5)) → (Option (Prod AEnd Heap))) → (Option (Prod AEnd Heap)))) (fun x5 => x5 (nbq (nat_lit 2) (nat_lit 0) rfl)) (fun x5 _ => @Option.some _ (@Prod.mk _ _ (AEnd.ret x5) x2)) (Faresult x0 x1 x2 (FInfo.fn x3) x4) (fun _ => @Option.none _))
noncomputable def Foverq_1 : (AProg → ((List (PTree AObj)) → (Heap → (FInfo → (Env → (Option (Prod AEnd Heap))))))) :=
  (fun x0 x1 x2 x3 x4 => @Option.rec.{1, 0} _ (fun x5 => (((Nat.hasNotBit (nat_lit 1) (@Option.ctorIdx Pos x5)) → (Option (Prod AEnd Heap))) → (Option (Prod AEnd Heap)))) (fun _ => Foverq_0 x0 x1 x2 x3 x4) (fun x5 x6 => x6 (nbq (nat_lit 1) (nat_lit 1) rfl)) (FInfo.rnd x3) (fun _ => @Option.none _))
noncomputable def Foverq_2 : (AProg → ((List (PTree AObj)) → (Heap → (FInfo → (Env → (Option (Option (Prod AEnd Heap)))))))) :=
  (fun x0 x1 x2 x3 x4 => @Option.some _ (@Bool.rec.{1} (fun x5 => (((Nat.hasNotBit (nat_lit 1) (Bool.ctorIdx x5)) → (Option (Prod AEnd Heap))) → (Option (Prod AEnd Heap)))) (fun _ => Foverq_1 x0 x1 x2 x3 x4) (fun x5 => x5 (nbq (nat_lit 1) (nat_lit 1) rfl)) (FInfo.dk x3) (fun _ => @Option.none _)))
noncomputable def Foverq_3 : (AProg → ((List (PTree AObj)) → (Heap → (FInfo → (Env → ((List ADef) → (Option (Option (Prod AEnd Heap))))))))) :=
  (fun x0 x1 x2 x3 x4 x5 => @List.rec.{1, 0} _ (fun x6 => (((Nat.hasNotBit (nat_lit 1) (@List.ctorIdx ADef x6)) → (Option (Option (Prod AEnd Heap)))) → (Option (Option (Prod AEnd Heap))))) (fun _ => Foverq_2 x0 x1 x2 x3 x4) (fun x6 x7 _ x9 => x9 (nbq (nat_lit 1) (nat_lit 1) rfl)) x5 (fun _ => @Option.none _))
noncomputable def Foverq_4 : (AProg → ((List (PTree AObj)) → ((List AFrame) → (Heap → (FInfo → (Env → ((List ADef) → (Option (Option (Prod AEnd Heap)))))))))) :=
  (fun x0 x1 x2 x3 x4 x5 x6 => @List.rec.{1, 0} _ (fun x7 => (((Nat.hasNotBit (nat_lit 1) (@List.ctorIdx AFrame x7)) → (Option (Option (Prod AEnd Heap)))) → (Option (Option (Prod AEnd Heap))))) (fun _ => Foverq_3 x0 x1 x3 x4 x5 x6) (fun x7 x8 _ x10 => x10 (nbq (nat_lit 1) (nat_lit 1) rfl)) x2 (fun _ => @Option.none _))
noncomputable def Foverq_5 : (Heap → (FInfo → ((List (Prod AVal Bool)) → (Option (Prod AEnd Heap))))) :=
  (fun x0 x1 x2 => @Option.rec.{1, 0} _ (fun x3 => (((Nat.hasNotBit (nat_lit 1) (@Option.ctorIdx Pos x3)) → (Option (Prod AEnd Heap))) → (Option (Prod AEnd Heap)))) (fun _ => @Option.some _ (@Prod.mk _ _ (AEnd.pan x2) x0)) (fun x3 x4 => x4 (nbq (nat_lit 1) (nat_lit 1) rfl)) (FInfo.rnd x1) (fun _ => @Option.none _))
noncomputable def Foverq_6 : (Heap → (FInfo → ((List (Prod AVal Bool)) → (Option (Option (Prod AEnd Heap)))))) :=
  (fun x0 x1 x2 => @Option.some _ (@Bool.rec.{1} (fun x3 => (((Nat.hasNotBit (nat_lit 1) (Bool.ctorIdx x3)) → (Option (Prod AEnd Heap))) → (Option (Prod AEnd Heap)))) (fun _ => Foverq_5 x0 x1 x2) (fun x3 => x3 (nbq (nat_lit 1) (nat_lit 1) rfl)) (FInfo.dk x1) (fun _ => @Option.none _)))
noncomputable def Foverq_7 : (Heap → (FInfo → ((List ADef) → ((List (Prod AVal Bool)) → (Option (Option (Prod AEnd Heap))))))) :=
  (fun x0 x1 x2 x3 => @List.rec.{1, 0} _ (fun x4 => (((Nat.hasNotBit (nat_lit 1) (@List.ctorIdx ADef x4)) → (Option (Option (Prod AEnd Heap)))) → (Option (Option (Prod AEnd Heap))))) (fun _ => Foverq_6 x0 x1 x3) (fun x4 x5 _ x7 => x7 (nbq (nat_lit 1) (nat_lit 1) rfl)) x2 (fun _ => @Option.none _))
noncomputable def Foverq_8 : ((List AFrame) → (Heap → (FInfo → ((List ADef) → ((List (Prod AVal Bool)) → (Option (Option (Prod AEnd Heap)))))))) :=
  (fun x0 x1 x2 x3 x4 => @List.rec.{1, 0} _ (fun x5 => (((Nat.hasNotBit (nat_lit 1) (@List.ctorIdx AFrame x5)) → (Option (Option (Prod AEnd Heap)))) → (Option (Option (Prod AEnd Heap))))) (fun _ => Foverq_7 x1 x2 x3 x4) (fun x5 x6 _ x8 => x8 (nbq (nat_lit 1) (nat_lit 1) rfl)) x0 (fun _ => @Option.none _))
noncomputable def Foverq_9 : (AProg → ((List (PTree AObj)) → ((List AFrame) → (Heap → (FInfo → (Env → ((List ADef) → (AMode → (Option (Option (Prod AEnd Heap))))))))))) :=
  (fun x0 x1 x2 x3 x4 x5 x6 x7 => @AMode.rec.{1} (fun x8 => (((Nat.hasNotBit (nat_lit 6) (AMode.ctorIdx x8)) → (Option (Option (Prod AEnd Heap)))) → (Option (Option (Prod AEnd Heap))))) (fun x8 => x8 (nbq (nat_lit 6) (nat_lit 0) rfl)) (fun _ => Foverq_4 x0 x1 x2 x3 x4 x5 x6) (fun x8 _ => Foverq_8 x2 x3 x4 x6 x8) x7 (fun _ => @Option.none _))
noncomputable def Foverq : (AProg → ((List (PTree AObj)) → (AState → (Option (Option (Prod AEnd Heap)))))) :=
  (fun x0 x1 x2 => @AState.rec.{1} (fun _ => Option (Option (Prod AEnd Heap))) (fun x3 x4 x5 => @AFrame.rec.{1} (fun _ => Option (Option (Prod AEnd Heap))) (fun x6 x7 _ x9 x10 => Foverq_9 x0 x1 x4 x5 x6 x7 x9 x10) x3) x2)
theorem Foverq_eq : @Foverq = @Go.Abs.over? := by
  delta Foverq
  delta Foverq_9
  delta Foverq_8
  delta Foverq_7
  delta Foverq_6
  delta Foverq_5
  delta Foverq_4
  delta Foverq_3
  delta Foverq_2
  delta Foverq_1
  delta Foverq_0
  rw [Faresult_eq]; kernel_rfl
noncomputable def FsetDst_0 : (Nat → (AVal → (Env → (Go.Tmp → (Option Env))))) :=
  (fun x0 x1 x2 x3 => @Bool.rec.{1} (fun _ => Option Env) (@Option.none _) (@Env.rec.{1} (fun _ => Option Env) (fun x4 x5 => @Option.some _ (Env.mk (@List.cons _ (@Prod.mk _ _ x3 x1) x4) x5)) x2) (Nat.ble (Nat.succ x3) x0))
noncomputable def FsetDst : (Nat → ((Option Go.Tmp) → (AVal → (Env → (Option Env))))) :=
  (fun x0 x1 x2 x3 => @Option.rec.{1, 0} _ (fun _ => Option Env) (@Option.some _ x3) (fun x4 => FsetDst_0 x0 x2 x3 x4) x1)
theorem FsetDst_eq : @FsetDst = @Go.Abs.setDst := by
  delta FsetDst
  delta FsetDst_0
  kernel_rfl
noncomputable def FfinishA_0 : (AVal → (FInfo → (Env → ((List ADef) → (AMode → ((List AItem) → ((Array Go.Oper) → (Go.Oper → ((List Go.Oper) → (Option AFrame)))))))))) :=
  (fun x0 x1 x2 x3 x4 x5 x6 x7 x8 => @Option.rec.{1, 0} _ (fun _ => Option AFrame) (@Option.none _) (fun x9 => @Option.some _ (AFrame.mk x1 x9 (@List.cons _ (AItem.inRegion x6 x8) x5) x3 x4)) (FsetDst (FInfo.nt x1) (Go.Oper.dst x7) x0 x2))
noncomputable def FfinishA_1 : (AVal → (FInfo → (Env → ((List ADef) → (AMode → ((List AItem) → ((Array Go.Oper) → ((List Go.Oper) → (Option AFrame))))))))) :=
  (fun x0 x1 x2 x3 x4 x5 x6 x7 => @List.rec.{1, 0} _ (fun x8 => (((Nat.hasNotBit (nat_lit 2) (@List.ctorIdx Go.Oper x8)) → (Option AFrame)) → (Option AFrame))) (fun x8 => x8 (nbq (nat_lit 2) (nat_lit 0) rfl)) (fun x8 x9 _ _ => FfinishA_0 x0 x1 x2 x3 x4 x5 x6 x8 x9) x7 (fun _ => @Option.none _))
noncomputable def FfinishA_2 : (AVal → (FInfo → (Env → ((List ADef) → (AMode → (AItem → ((List AItem) → (Option AFrame)))))))) :=
  (fun x0 x1 x2 x3 x4 x5 x6 => @AItem.rec.{1} (fun x7 => (((Nat.hasNotBit (nat_lit 48) (AItem.ctorIdx x7)) → (Option AFrame)) → (Option AFrame))) (fun x7 x8 => x8 (nbq (nat_lit 48) (nat_lit 0) rfl)) (fun x7 x8 => x8 (nbq (nat_lit 48) (nat_lit 1) rfl)) (fun x7 x8 => x8 (nbq (nat_lit 48) (nat_lit 2) rfl)) (fun x7 x8 => x8 (nbq (nat_lit 48) (nat_lit 3) rfl)) (fun x7 x8 _ => FfinishA_1 x0 x1 x2 x3 x4 x6 x7 x8) (fun x7 _ => @Option.some _ (AFrame.mk x1 x2 (@List.cons _ (AItem.endRangeFunc x7) x6) x3 x4)) (fun x7 x8 => x8 (nbq (nat_lit 48) (nat_lit 6) rfl)) (fun x7 => x7 (nbq (nat_lit 48) (nat_lit 7) rfl)) (fun x7 => x7 (nbq (nat_lit 48) (nat_lit 8) rfl)) x5 (fun _ => @Option.none _))
noncomputable def FfinishA_3 : (AVal → (FInfo → (Env → ((List AItem) → ((List ADef) → (AMode → (Option AFrame))))))) :=
  (fun x0 x1 x2 x3 x4 x5 => @List.rec.{1, 0} _ (fun x6 => (((Nat.hasNotBit (nat_lit 2) (@List.ctorIdx AItem x6)) → (Option AFrame)) → (Option AFrame))) (fun x6 => x6 (nbq (nat_lit 2) (nat_lit 0) rfl)) (fun x6 x7 _ _ => FfinishA_2 x0 x1 x2 x4 x5 x6 x7) x3 (fun _ => @Option.none _))
noncomputable def FfinishA : (AFrame → (AVal → (Option AFrame))) :=
  (fun x0 x1 => @AFrame.rec.{1} (fun _ => Option AFrame) (fun x2 x3 x4 x5 x6 => FfinishA_3 x1 x2 x3 x4 x5 x6) x0)
theorem FfinishA_eq : @FfinishA = @Go.Abs.finishA := by
  delta FfinishA
  delta FfinishA_3
  delta FfinishA_2
  delta FfinishA_1
  delta FfinishA_0
  rw [FsetDst_eq]; kernel_rfl
noncomputable def FPTree_put : ((x0 : Type) → (Pos → (x0 → ((PTree x0) → (PTree x0))))) :=
  (fun x0 x1 => @Pos.rec.{1} (fun _ => (x0 → ((PTree x0) → (PTree x0)))) (fun x2 x3 => @PTree.rec.{1} x0 (fun _ => PTree x0) (@PTree.node x0 (@PTree.leaf x0) (@Option.some x0 x2) (@PTree.leaf x0)) (fun x4 _ x6 _ _ => @PTree.node x0 x4 (@Option.some x0 x2) x6) x3) (fun _ x3 x4 x5 => @PTree.rec.{1} x0 (fun _ => PTree x0) (@PTree.node x0 (x3 x4 (@PTree.leaf x0)) (@Option.none x0) (@PTree.leaf x0)) (fun x6 x7 x8 _ _ => @PTree.node x0 (x3 x4 x6) x7 x8) x5) (fun _ x3 x4 x5 => @PTree.rec.{1} x0 (fun _ => PTree x0) (@PTree.node x0 (@PTree.leaf x0) (@Option.none x0) (x3 x4 (@PTree.leaf x0))) (fun x6 x7 x8 _ _ => @PTree.node x0 x6 x7 (x3 x4 x8)) x5) x1)
theorem FPTree_put_eq : @FPTree_put = @Go.Abs.PTree.put := by
  funext p0 p1
  refine @Go.Abs.Pos.rec  (fun x => @FPTree_put p0 x = @Go.Abs.PTree.put p0 x) ?_ ?_ ?_ p1
  · skip
    refine Eq.trans (show (@FPTree_put p0 (@Go.Abs.Pos.H )) = (fun x0 x1 => @PTree.rec.{1} p0 (fun _ => PTree p0) (@PTree.node p0 (@PTree.leaf p0) (@Option.some p0 x0) (@PTree.leaf p0)) (fun x2 _ x4 _ _ => @PTree.node p0 x2 (@Option.some p0 x0) x4) x1) by kernel_rfl) ?_
    kernel_rfl
  · intro f0 h0
    refine Eq.trans (show (@FPTree_put p0 (@Go.Abs.Pos.O f0)) = (fun x0 x1 => @PTree.rec.{1} p0 (fun _ => PTree p0) (@PTree.node p0 ((@FPTree_put p0 f0) x0 (@PTree.leaf p0)) (@Option.none p0) (@PTree.leaf p0)) (fun x2 x3 x4 _ _ => @PTree.node p0 ((@FPTree_put p0 f0) x0 x2) x3 x4) x1) by kernel_rfl) ?_
    generalize (@FPTree_put p0 f0) = r0 at h0 ⊢
    subst h0
    kernel_rfl
  · intro f0 h0
    refine Eq.trans (show (@FPTree_put p0 (@Go.Abs.Pos.I f0)) = (fun x0 x1 => @PTree.rec.{1} p0 (fun _ => PTree p0) (@PTree.node p0 (@PTree.leaf p0) (@Option.none p0) ((@FPTree_put p0 f0) x0 (@PTree.leaf p0))) (fun x2 x3 x4 _ _ => @PTree.node p0 x2 x3 ((@FPTree_put p0 f0) x0 x4)) x1) by kernel_rfl) ?_
    generalize (@FPTree_put p0 f0) = r0 at h0 ⊢
    subst h0
    kernel_rfl
noncomputable def FHeap_set : (Heap → (Pos → (AObj → Heap))) :=
  (fun x0 x1 x2 => @Heap.rec.{1} (fun _ => Heap) (fun x3 x4 => Heap.mk (FPTree_put AObj x1 x2 x3) x4) x0)
theorem FHeap_set_eq : @FHeap_set = @Go.Abs.Heap.set := by
  delta FHeap_set
  rw [FPTree_put_eq]; kernel_rfl
noncomputable def Faleave_0 : ((List AFrame) → (Heap → (FInfo → (Env → ((List AItem) → ((List ADef) → (Go.Code → AStep))))))) :=
  (fun x0 x1 x2 x3 x4 x5 x6 => @Go.Code.rec.{1} (fun x7 => (((Nat.hasNotBit (nat_lit 2048) (Go.Code.ctorIdx x7)) → AStep) → AStep)) (fun x7 => x7 (nbq (nat_lit 2048) (nat_lit 0) rfl)) (fun x7 x8 x9 x10 => x10 (nbq (nat_lit 2048) (nat_lit 1) rfl)) (fun x7 x8 _ _ x11 => x11 (nbq (nat_lit 2048) (nat_lit 2) rfl)) (fun x7 x8 x9 _ _ x12 => x12 (nbq (nat_lit 2048) (nat_lit 3) rfl)) (fun x7 x8 _ x10 => x10 (nbq (nat_lit 2048) (nat_lit 4) rfl)) (fun x7 _ x9 => x9 (nbq (nat_lit 2048) (nat_lit 5) rfl)) (fun x7 x8 x9 x10 _ _ x13 => x13 (nbq (nat_lit 2048) (nat_lit 6) rfl)) (fun x7 x8 => x8 (nbq (nat_lit 2048) (nat_lit 7) rfl)) (fun x7 _ x9 => x9 (nbq (nat_lit 2048) (nat_lit 8) rfl)) (fun x7 x8 => x8 (nbq (nat_lit 2048) (nat_lit 9) rfl)) (fun x7 x8 => x8 (nbq (nat_lit 2048) (nat_lit 10) rfl)) (fun _ => AStep.next (AState.mk (AFrame.mk x2 x3 x4 x5 AMode.returning) x0 x1)) (fun x7 x8 => x8 (nbq (nat_lit 2048) (nat_lit 12) rfl)) x6 (fun _ => AStep.fail))
noncomputable def Faleave_1 : ((Option Go.Code) → (Heap → (Pos → (ALoop → ((List AFrame) → (AFrame → AStep)))))) :=
  (fun x0 x1 x2 x3 x4 x5 => AStep.next (AState.mk x5 x4 (FHeap_set x1 x2 (AObj.loop (ALoop.mk (@Option.rec.{1, 0} _ (fun _ => Go.LoopState) Go.LoopState.ready (fun _ => Go.LoopState.done) x0) x0 (ALoop.fn x3) (ALoop.msk x3) (ALoop.nt x3) (ALoop.env x3) (ALoop.params x3) (ALoop.assign x3) (ALoop.body x3) (ALoop.defers x3))))))
noncomputable def Faleave_2 : ((Option Go.Code) → ((List AFrame) → (Heap → (Pos → (ALoop → AStep))))) :=
  (fun x0 x1 x2 x3 x4 => @List.rec.{1, 0} _ (fun x5 => (((Nat.hasNotBit (nat_lit 2) (@List.ctorIdx AFrame x5)) → AStep) → AStep)) (fun x5 => x5 (nbq (nat_lit 2) (nat_lit 0) rfl)) (fun x5 x6 _ _ => @Option.rec.{1, 0} _ (fun _ => AStep) AStep.fail (fun x9 => Faleave_1 x0 x2 x3 x4 x6 x9) (FfinishA x5 (AVal.bool (@Option.rec.{1, 0} _ (fun _ => Bool) Bool.true (fun _ => Bool.false) x0)))) x1 (fun _ => AStep.fail))
noncomputable def Faleave_3 : ((Option Go.Code) → ((List AFrame) → (Heap → (Pos → (AObj → AStep))))) :=
  (fun x0 x1 x2 x3 x4 => @AObj.rec.{1} (fun x5 => (((Nat.hasNotBit (nat_lit 16) (AObj.ctorIdx x5)) → AStep) → AStep)) (fun x5 x6 x7 x8 x9 => x9 (nbq (nat_lit 16) (nat_lit 0) rfl)) (fun x5 x6 x7 => x7 (nbq (nat_lit 16) (nat_lit 1) rfl)) (fun x5 x6 x7 => x7 (nbq (nat_lit 16) (nat_lit 2) rfl)) (fun x5 x6 x7 x8 => x8 (nbq (nat_lit 16) (nat_lit 3) rfl)) (fun x5 _ => Faleave_2 x0 x1 x2 x3 x5) (fun x5 x6 => x6 (nbq (nat_lit 16) (nat_lit 5) rfl)) (fun x5 => x5 (nbq (nat_lit 16) (nat_lit 6) rfl)) x4 (fun _ => AStep.fail))
noncomputable def Faleave_4 : ((List (PTree AObj)) → ((Option Go.Code) → ((List AFrame) → (Heap → (Pos → AStep))))) :=
  (fun x0 x1 x2 x3 x4 => @Option.rec.{1, 0} _ (fun x5 => (((Nat.hasNotBit (nat_lit 2) (@Option.ctorIdx AObj x5)) → AStep) → AStep)) (fun x5 => x5 (nbq (nat_lit 2) (nat_lit 0) rfl)) (fun x5 _ => Faleave_3 x1 x2 x3 x4 x5) (Fhget x0 x3 x4) (fun _ => AStep.fail))
noncomputable def Faleave_5 : ((List (PTree AObj)) → ((Option Go.Code) → ((List AFrame) → (Heap → (FInfo → (Env → ((List AItem) → ((List ADef) → AStep)))))))) :=
  (fun x0 x1 x2 x3 x4 x5 x6 x7 => @Option.rec.{1, 0} _ (fun _ => AStep) (@Option.rec.{1, 0} _ (fun _ => AStep) (AStep.next (AState.mk (AFrame.mk x4 x5 x6 x7 AMode.returning) x2 x3)) (fun x8 => Faleave_0 x2 x3 x4 x5 x6 x7 x8) x1) (fun x8 => Faleave_4 x0 x1 x2 x3 x8) (FInfo.rnd x4))
noncomputable def Faleave : (AProg → ((List (PTree AObj)) → (AState → ((Option Go.Code) → AStep)))) :=
  (fun _ x1 x2 x3 => @AState.rec.{1} (fun _ => AStep) (fun x4 x5 x6 => @AFrame.rec.{1} (fun _ => AStep) (fun x7 x8 x9 x10 _ => Faleave_5 x1 x3 x5 x6 x7 x8 x9 x10) x4) x2)
theorem Faleave_eq : @Faleave = @Go.Abs.aleave := by
  delta Faleave
  delta Faleave_5
  delta Faleave_4
  delta Faleave_3
  delta Faleave_2
  delta Faleave_1
  delta Faleave_0
  rw [FHeap_set_eq, FfinishA_eq, Fhget_eq]; kernel_rfl
noncomputable def Fayielded_0 : ((List AVal) → (Option (Option Bool))) :=
  (fun x0 => @List.rec.{1, 0} _ (fun x1 => (((Nat.hasNotBit (nat_lit 1) (@List.ctorIdx AVal x1)) → (Option (Option Bool))) → (Option (Option Bool)))) (fun _ => @Option.some _ (@Option.none _)) (fun x1 x2 _ x4 => x4 (nbq (nat_lit 1) (nat_lit 1) rfl)) x0 (fun _ => @Option.none _))
noncomputable def Fayielded_1 : (AVal → (Option (Option Bool))) :=
  (fun x0 => @AVal.rec.{1} (fun x1 => (((Nat.hasNotBit (nat_lit 65537) (AVal.ctorIdx x1)) → (Option (Option Bool))) → (Option (Option Bool)))) (fun _ => PUnit) (fun x1 _ => @Option.some _ (@Option.some _ x1)) (fun x1 x2 x3 => x3 (nbq (nat_lit 65537) (nat_lit 1) rfl)) (fun x1 x2 => x2 (nbq (nat_lit 65537) (nat_lit 2) rfl)) (fun x1 x2 x3 => x3 (nbq (nat_lit 65537) (nat_lit 3) rfl)) (fun x1 => x1 (nbq (nat_lit 65537) (nat_lit 4) rfl)) (fun x1 x2 x3 x4 x5 => x5 (nbq (nat_lit 65537) (nat_lit 5) rfl)) (fun x1 x2 x3 x4 x5 => x5 (nbq (nat_lit 65537) (nat_lit 6) rfl)) (fun x1 => x1 (nbq (nat_lit 65537) (nat_lit 7) rfl)) (fun x1 x2 => x2 (nbq (nat_lit 65537) (nat_lit 8) rfl)) (fun x1 => x1 (nbq (nat_lit 65537) (nat_lit 9) rfl)) (fun x1 x2 x3 _ _ x6 => x6 (nbq (nat_lit 65537) (nat_lit 10) rfl)) (fun x1 x2 => x2 (nbq (nat_lit 65537) (nat_lit 11) rfl)) (fun x1 => x1 (nbq (nat_lit 65537) (nat_lit 12) rfl)) (fun x1 x2 _ x4 => x4 (nbq (nat_lit 65537) (nat_lit 13) rfl)) (fun x1 => x1 (nbq (nat_lit 65537) (nat_lit 14) rfl)) (fun x1 _ x3 => x3 (nbq (nat_lit 65537) (nat_lit 15) rfl)) (fun x1 _ _ => Fayielded_0 x1) PUnit.unit (fun x1 _ _ _ => PUnit.unit) x0 (fun _ => @Option.none _))
noncomputable def Fayielded_2 : (Env → (Go.Oper → (Option (Option Bool)))) :=
  (fun x0 x1 => @Option.rec.{1, 0} _ (fun _ => Option (Option Bool)) (@Option.none _) (fun x2 => @Option.rec.{1, 0} _ (fun x3 => (((Nat.hasNotBit (nat_lit 2) (@Option.ctorIdx AVal x3)) → (Option (Option Bool))) → (Option (Option Bool)))) (fun x3 => x3 (nbq (nat_lit 2) (nat_lit 0) rfl)) (fun x3 _ => Fayielded_1 x3) (FEnv_get x0 x2) (fun _ => @Option.none _)) (Go.Oper.dst x1))
noncomputable def Fayielded : ((Array Go.Oper) → (Env → (Nat → (Option (Option Bool))))) :=
  (fun x0 x1 x2 => @Option.rec.{1, 0} _ (fun _ => Option (Option Bool)) (@Option.none _) (fun x3 => Fayielded_2 x1 x3) (Fnth Go.Oper x2 (@Array.toList Go.Oper x0)))
theorem Fayielded_eq : @Fayielded = @Go.Abs.ayielded := by
  delta Fayielded
  delta Fayielded_2
  delta Fayielded_1
  delta Fayielded_0
  rw [FEnv_get_eq, Fnth_eq]; kernel_rfl
noncomputable def FbeqBool : (Bool → (Bool → Bool)) :=
  (fun x0 x1 => @Bool.rec.{1} (fun _ => Bool) (Bool.not x1) x1 x0)
theorem FbeqBool_eq : @FbeqBool = @Go.Abs.beqBool := by
  delta FbeqBool
  kernel_rfl
noncomputable def Fawanted_0 : ((Array Go.Oper) → (Env → (Nat → (Bool → (Option Bool))))) :=
  (fun x0 x1 x2 x3 => @Option.rec.{1, 0} _ (fun _ => Option Bool) (@Option.none _) (fun x4 => @Option.rec.{1, 0} _ (fun _ => Option Bool) (@Option.some _ Bool.false) (fun x5 => @Option.some _ (FbeqBool x5 x3)) x4) (Fayielded x0 x1 x2))
noncomputable def Fawanted : ((Option (Prod Nat Bool)) → ((Array Go.Oper) → (Env → (Option Bool)))) :=
  (fun x0 x1 x2 => @Option.rec.{1, 0} _ (fun _ => Option Bool) (@Option.some _ Bool.true) (fun x3 => @Prod.rec.{1, 0, 0} _ _ (fun _ => Option Bool) (fun x4 x5 => Fawanted_0 x1 x2 x4 x5) x3) x0)
theorem Fawanted_eq : @Fawanted = @Go.Abs.awanted := by
  delta Fawanted
  delta Fawanted_0
  rw [FbeqBool_eq, Fayielded_eq]; kernel_rfl
noncomputable def FundefA : AVal :=
  (AVal.tuple (@List.nil _))
theorem FundefA_eq : @FundefA = @Go.Abs.undefA := by
  delta FundefA
  kernel_rfl
noncomputable def FkindOf_0 : (Go.TypeDesc → Nat) :=
  (fun x0 => @Go.TypeDesc.rec.{1} (fun x1 => (((Nat.hasNotBit (nat_lit 256) (Go.TypeDesc.ctorIdx x1)) → Nat) → Nat)) (fun x1 => x1 (nbq (nat_lit 256) (nat_lit 0) rfl)) (fun x1 => x1 (nbq (nat_lit 256) (nat_lit 1) rfl)) (fun x1 x2 => x2 (nbq (nat_lit 256) (nat_lit 2) rfl)) (fun x1 x2 => x2 (nbq (nat_lit 256) (nat_lit 3) rfl)) (fun x1 x2 => x2 (nbq (nat_lit 256) (nat_lit 4) rfl)) (fun x1 => x1 (nbq (nat_lit 256) (nat_lit 5) rfl)) (fun x1 => x1 (nbq (nat_lit 256) (nat_lit 6) rfl)) (fun x1 x2 => x2 (nbq (nat_lit 256) (nat_lit 7) rfl)) (fun x1 _ => (nat_lit 1)) (fun x1 x2 x3 => x3 (nbq (nat_lit 256) (nat_lit 9) rfl)) (fun x1 x2 x3 => x3 (nbq (nat_lit 256) (nat_lit 10) rfl)) (fun x1 x2 x3 => x3 (nbq (nat_lit 256) (nat_lit 11) rfl)) (fun x1 x2 => x2 (nbq (nat_lit 256) (nat_lit 12) rfl)) (fun x1 x2 x3 x4 => x4 (nbq (nat_lit 256) (nat_lit 13) rfl)) (fun x1 x2 => x2 (nbq (nat_lit 256) (nat_lit 14) rfl)) (fun x1 x2 => x2 (nbq (nat_lit 256) (nat_lit 15) rfl)) (fun x1 x2 x3 => x3 (nbq (nat_lit 256) (nat_lit 16) rfl)) x0 (fun _ => (nat_lit 0)))
noncomputable def FkindOf_1 : (Go.Builtin → Nat) :=
  (fun x0 => @Go.Builtin.rec.{1} (fun x1 => (((Nat.hasNotBit (nat_lit 3330) (Go.Builtin.ctorIdx x1)) → Nat) → Nat)) (fun x1 => x1 (nbq (nat_lit 3330) (nat_lit 0) rfl)) (fun _ => (nat_lit 0)) (fun x1 => x1 (nbq (nat_lit 3330) (nat_lit 2) rfl)) (fun x1 => x1 (nbq (nat_lit 3330) (nat_lit 3) rfl)) (fun x1 => x1 (nbq (nat_lit 3330) (nat_lit 4) rfl)) (fun x1 => x1 (nbq (nat_lit 3330) (nat_lit 5) rfl)) (fun x1 => x1 (nbq (nat_lit 3330) (nat_lit 6) rfl)) (fun x1 => x1 (nbq (nat_lit 3330) (nat_lit 7) rfl)) (fun _ => (nat_lit 0)) (fun x1 => x1 (nbq (nat_lit 3330) (nat_lit 9) rfl)) (fun _ => (nat_lit 0)) (fun _ => (nat_lit 0)) (fun x1 => x1 (nbq (nat_lit 3330) (nat_lit 12) rfl)) (fun x1 => x1 (nbq (nat_lit 3330) (nat_lit 13) rfl)) (fun x1 => x1 (nbq (nat_lit 3330) (nat_lit 14) rfl)) (fun x1 => x1 (nbq (nat_lit 3330) (nat_lit 15) rfl)) (fun x1 => x1 (nbq (nat_lit 3330) (nat_lit 16) rfl)) (fun x1 => x1 (nbq (nat_lit 3330) (nat_lit 17) rfl)) (fun x1 => x1 (nbq (nat_lit 3330) (nat_lit 18) rfl)) (fun x1 => x1 (nbq (nat_lit 3330) (nat_lit 19) rfl)) (fun x1 => x1 (nbq (nat_lit 3330) (nat_lit 20) rfl)) (fun x1 => x1 (nbq (nat_lit 3330) (nat_lit 21) rfl)) (fun x1 => x1 (nbq (nat_lit 3330) (nat_lit 22) rfl)) (fun x1 => x1 (nbq (nat_lit 3330) (nat_lit 23) rfl)) (fun x1 => x1 (nbq (nat_lit 3330) (nat_lit 24) rfl)) (fun x1 => x1 (nbq (nat_lit 3330) (nat_lit 25) rfl)) x0 (fun _ => (nat_lit 2)))
noncomputable def FkindOf_2 : (Go.Call → Nat) :=
  (fun x0 => @Go.Callee.rec.{1} (fun x1 => (((Nat.hasNotBit (nat_lit 4) (Go.Callee.ctorIdx x1)) → Nat) → Nat)) (fun x1 x2 => x2 (nbq (nat_lit 4) (nat_lit 0) rfl)) (fun x1 x2 x3 => x3 (nbq (nat_lit 4) (nat_lit 1) rfl)) (fun x1 _ => FkindOf_1 x1) (Go.Call.callee x0) (fun _ => (nat_lit 2)))
noncomputable def FkindOf : (AProg → (Go.Op → Nat)) :=
  (fun x0 x1 => @Go.Op.rec.{1} (fun _ => (AProg → Nat)) (fun _ _ => (nat_lit 0)) (fun _ _ => (nat_lit 0)) (fun _ _ _ _ => (nat_lit 0)) (fun _ _ => (nat_lit 1)) (fun _ _ _ => (nat_lit 1)) (fun _ _ _ => (nat_lit 0)) (fun _ _ _ _ => (nat_lit 1)) (fun _ _ _ _ _ => (nat_lit 2)) (fun _ _ _ => (nat_lit 0)) (fun _ _ _ _ => (nat_lit 2)) (fun _ _ => (nat_lit 0)) (fun _ _ => (nat_lit 0)) (fun _ _ => (nat_lit 0)) (fun _ _ _ _ _ _ => (nat_lit 0)) (fun _ _ _ _ => (nat_lit 0)) (fun _ x3 _ x5 => @Option.rec.{1, 0} _ (fun x6 => (((Nat.hasNotBit (nat_lit 2) (@Option.ctorIdx Go.TypeDesc x6)) → Nat) → Nat)) (fun x6 => x6 (nbq (nat_lit 2) (nat_lit 0) rfl)) (fun x6 _ => FkindOf_0 x6) (Fund x5 x3) (fun _ => (nat_lit 0))) (fun _ _ _ => (nat_lit 0)) (fun _ _ _ => (nat_lit 0)) (fun _ _ _ _ => (nat_lit 0)) (fun _ _ _ => (nat_lit 1)) (fun _ _ _ => (nat_lit 0)) (fun _ _ _ _ => (nat_lit 1)) (fun _ _ _ _ _ _ => (nat_lit 0)) (fun _ _ _ _ => (nat_lit 0)) (fun _ _ _ _ => (nat_lit 0)) (fun _ _ _ _ => (nat_lit 0)) (fun _ _ _ _ => (nat_lit 0)) (fun _ _ _ _ _ => (nat_lit 0)) (fun _ _ _ _ _ => (nat_lit 2)) (fun _ _ _ _ => (nat_lit 0)) (fun _ _ _ _ _ => (nat_lit 0)) (fun _ _ _ => (nat_lit 2)) (fun _ _ _ => (nat_lit 2)) (fun _ _ => (nat_lit 0)) (fun _ _ _ _ _ => (nat_lit 0)) (fun _ _ _ => (nat_lit 0)) (fun x2 _ => FkindOf_2 x2) (fun _ _ => (nat_lit 0)) (fun _ _ => (nat_lit 2)) (fun _ _ => (nat_lit 2)) (fun _ _ _ => (nat_lit 0)) (fun _ _ _ _ => (nat_lit 0)) (fun _ _ _ => (nat_lit 0)) x1 x0)
theorem FkindOf_eq : @FkindOf = @Go.Abs.kindOf := by
  delta FkindOf
  delta FkindOf_2
  delta FkindOf_1
  delta FkindOf_0
  rw [Fund_eq]; funext p0 p1; cases p1 <;> kernel_rfl
noncomputable def Faeval : (Env → (Go.Operand → (Option AVal))) :=
  (fun x0 x1 => @Go.Operand.rec.{1} (fun _ => (Env → (Option AVal))) (fun x2 x3 => FEnv_get x3 x2) (fun x2 _ => ofValue x2) (fun x2 _ => @Bool.rec.{1} (fun _ => Option AVal) (@Option.none _) (@Option.some _ (AVal.ptr (FposOf x2) (nat_lit 0))) (Nat.ble (Nat.succ x2) (nat_lit 32))) (fun x2 _ => @Option.some _ (AVal.func x2 (@List.nil _) (@List.nil _))) x1 x0)
theorem Faeval_eq : @Faeval = @Go.Abs.aeval := by
  delta Faeval
  rw [FEnv_get_eq, FposOf_eq]; funext p0 p1; cases p1 <;> kernel_rfl
noncomputable def FqPick_0 : (Env → (Go.Operand → (Go.Operand → (AVal → (Option AVal))))) :=
  (fun x0 x1 x2 x3 => @AVal.rec.{1} (fun x4 => (((Nat.hasNotBit (nat_lit 1) (AVal.ctorIdx x4)) → (Option AVal)) → (Option AVal))) (fun _ => PUnit) (fun x4 _ => Faeval x0 (@Bool.rec.{1} (fun _ => Go.Operand) x2 x1 x4)) (fun x4 x5 x6 => x6 (nbq (nat_lit 1) (nat_lit 1) rfl)) (fun x4 x5 => x5 (nbq (nat_lit 1) (nat_lit 2) rfl)) (fun x4 x5 x6 => x6 (nbq (nat_lit 1) (nat_lit 3) rfl)) (fun x4 => x4 (nbq (nat_lit 1) (nat_lit 4) rfl)) (fun x4 x5 x6 x7 x8 => x8 (nbq (nat_lit 1) (nat_lit 5) rfl)) (fun x4 x5 x6 x7 x8 => x8 (nbq (nat_lit 1) (nat_lit 6) rfl)) (fun x4 => x4 (nbq (nat_lit 1) (nat_lit 7) rfl)) (fun x4 x5 => x5 (nbq (nat_lit 1) (nat_lit 8) rfl)) (fun x4 => x4 (nbq (nat_lit 1) (nat_lit 9) rfl)) (fun x4 x5 x6 _ _ x9 => x9 (nbq (nat_lit 1) (nat_lit 10) rfl)) (fun x4 x5 => x5 (nbq (nat_lit 1) (nat_lit 11) rfl)) (fun x4 => x4 (nbq (nat_lit 1) (nat_lit 12) rfl)) (fun x4 x5 _ x7 => x7 (nbq (nat_lit 1) (nat_lit 13) rfl)) (fun x4 => x4 (nbq (nat_lit 1) (nat_lit 14) rfl)) (fun x4 _ x6 => x6 (nbq (nat_lit 1) (nat_lit 15) rfl)) (fun x4 _ x6 => x6 (nbq (nat_lit 1) (nat_lit 16) rfl)) PUnit.unit (fun x4 _ _ _ => PUnit.unit) x3 (fun _ => @Option.none _))
noncomputable def FqPick : (Env → (Go.Operand → (Go.Operand → (Go.Operand → (Option AVal))))) :=
  (fun x0 x1 x2 x3 => @Option.rec.{1, 0} _ (fun x4 => (((Nat.hasNotBit (nat_lit 2) (@Option.ctorIdx AVal x4)) → (Option AVal)) → (Option AVal))) (fun x4 => x4 (nbq (nat_lit 2) (nat_lit 0) rfl)) (fun x4 _ => FqPick_0 x0 x2 x3 x4) (Faeval x0 x1) (fun _ => @Option.none _))
theorem FqPick_eq : @FqPick = @Go.Abs.qPick := by
  delta FqPick
  delta FqPick_0
  rw [Faeval_eq]; kernel_rfl
noncomputable def FevalParts_0 : ((Prod Nat Go.Operand) → ((Option (List (Prod Nat AVal))) → (AVal → (Option (List (Prod Nat AVal)))))) :=
  (fun x0 x1 x2 => @Option.rec.{1, 0} _ (fun x3 => (((Nat.hasNotBit (nat_lit 2) (@Option.ctorIdx (List (Prod Nat AVal)) x3)) → (Option (List (Prod Nat AVal)))) → (Option (List (Prod Nat AVal))))) (fun x3 => x3 (nbq (nat_lit 2) (nat_lit 0) rfl)) (fun x3 _ => @Option.some _ (@List.cons _ (@Prod.mk _ _ x0.1 x2) x3)) x1 (fun _ => @Option.none _))
noncomputable def FevalParts_1 : (Env → ((Prod Nat Go.Operand) → ((Option (List (Prod Nat AVal))) → (Option (List (Prod Nat AVal)))))) :=
  (fun x0 x1 x2 => @Option.rec.{1, 0} _ (fun x3 => (((Nat.hasNotBit (nat_lit 2) (@Option.ctorIdx AVal x3)) → (Option (List (Prod Nat AVal)))) → (Option (List (Prod Nat AVal))))) (fun x3 => x3 (nbq (nat_lit 2) (nat_lit 0) rfl)) (fun x3 _ => FevalParts_0 x1 x2 x3) (Faeval x0 x1.2) (fun _ => @Option.none _))
noncomputable def FevalParts : (Env → ((List (Prod Nat Go.Operand)) → (Option (List (Prod Nat AVal))))) :=
  (fun x0 x1 => @List.rec.{1, 0} _ (fun _ => Option (List (Prod Nat AVal))) (@Option.some _ (@List.nil _)) (fun x2 _ x4 => FevalParts_1 x0 x2 x4) x1)
theorem FevalParts_eq : @FevalParts = @Go.Abs.evalParts := by
  funext p0 p1
  refine @List.rec _ (fun x => @FevalParts p0 x = @Go.Abs.evalParts p0 x) ?_ ?_ p1
  · skip
    refine Eq.trans (show (@FevalParts p0 (@List.nil _)) = (@Option.some _ (@List.nil _)) by kernel_rfl) ?_
    kernel_rfl
  · intro f0 f1 h0
    refine Eq.trans (show (@FevalParts p0 (@List.cons _ f0 f1)) = (FevalParts_1 p0 f0 (@FevalParts p0 f1)) by kernel_rfl) ?_
    delta FevalParts_1
    delta FevalParts_0
    generalize (@FevalParts p0 f1) = r0 at h0 ⊢
    subst h0
    rw [Faeval_eq]
    kernel_rfl
noncomputable def FzeroA : (AProg → (Go.TypeId → (Option AVal))) :=
  (fun x0 x1 => @Option.rec.{1, 0} _ (fun _ => Option AVal) (@Option.none _) (fun x2 => @Option.rec.{1, 0} _ (fun _ => Option AVal) (@Option.none _) (fun x3 => ofValue x3) (Go.TypeInfo.zero x2)) (FPTree_get Go.TypeInfo (FposOf x1) (AProg.types x0)))
theorem FzeroA_eq : @FzeroA = @Go.Abs.zeroA := by
  delta FzeroA
  rw [FPTree_get_eq, FposOf_eq]; kernel_rfl
noncomputable def FplacesA_0 : (Go.Field → ((Option (List (Prod Nat Nat))) → (Nat → (Option (List (Prod Nat Nat)))))) :=
  (fun x0 x1 x2 => @Option.rec.{1, 0} _ (fun x3 => (((Nat.hasNotBit (nat_lit 2) (@Option.ctorIdx (List (Prod Nat Nat)) x3)) → (Option (List (Prod Nat Nat)))) → (Option (List (Prod Nat Nat))))) (fun x3 => x3 (nbq (nat_lit 2) (nat_lit 0) rfl)) (fun x3 _ => @Option.some _ (@List.cons _ (@Prod.mk _ _ (Go.Field.offset x0) x2) x3)) x1 (fun _ => @Option.none _))
noncomputable def FplacesA_1 : (AProg → (Go.Field → ((Option (List (Prod Nat Nat))) → (Option (List (Prod Nat Nat)))))) :=
  (fun x0 x1 x2 => @Option.rec.{1, 0} _ (fun x3 => (((Nat.hasNotBit (nat_lit 2) (@Option.ctorIdx Nat x3)) → (Option (List (Prod Nat Nat)))) → (Option (List (Prod Nat Nat))))) (fun x3 => x3 (nbq (nat_lit 2) (nat_lit 0) rfl)) (fun x3 _ => FplacesA_0 x1 x2 x3) (FsizeA x0 (Go.Field.type x1)) (fun _ => @Option.none _))
noncomputable def FplacesA : (AProg → ((List Go.Field) → (Option (List (Prod Nat Nat))))) :=
  (fun x0 x1 => @List.rec.{1, 0} _ (fun _ => Option (List (Prod Nat Nat))) (@Option.some _ (@List.nil _)) (fun x2 _ x4 => FplacesA_1 x0 x2 x4) x1)
theorem FplacesA_eq : @FplacesA = @Go.Abs.placesA := by
  funext p0 p1
  refine @List.rec _ (fun x => @FplacesA p0 x = @Go.Abs.placesA p0 x) ?_ ?_ p1
  · skip
    refine Eq.trans (show (@FplacesA p0 (@List.nil _)) = (@Option.some _ (@List.nil _)) by kernel_rfl) ?_
    kernel_rfl
  · intro f0 f1 h0
    refine Eq.trans (show (@FplacesA p0 (@List.cons _ f0 f1)) = (FplacesA_1 p0 f0 (@FplacesA p0 f1)) by kernel_rfl) ?_
    delta FplacesA_1
    delta FplacesA_0
    generalize (@FplacesA p0 f1) = r0 at h0 ⊢
    subst h0
    rw [FsizeA_eq]
    kernel_rfl
noncomputable def FList_length : ((x0 : Type) → ((List x0) → Nat)) :=
  (fun x0 x1 => @List.rec.{1, 0} x0 (fun _ => Nat) (nat_lit 0) (fun _ _ x4 => Nat.add x4 (nat_lit 1)) x1)
theorem FList_length_eq : @FList_length = @List.length.{0} := by
  funext p0 p1
  refine @List.rec _ (fun x => @FList_length p0 x = @List.length.{0} p0 x) ?_ ?_ p1
  · skip
    refine Eq.trans (show (@FList_length p0 (@List.nil _)) = (nat_lit 0) by kernel_rfl) ?_
    kernel_rfl
  · intro f0 f1 h0
    refine Eq.trans (show (@FList_length p0 (@List.cons _ f0 f1)) = (Nat.add (@FList_length p0 f1) (nat_lit 1)) by kernel_rfl) ?_
    generalize (@FList_length p0 f1) = r0 at h0 ⊢
    subst h0
    kernel_rfl
noncomputable def FAVal_cells : (AVal → (List AVal)) :=
  (fun x0 => @AVal.rec.{1} (fun _ => List AVal) (fun _ => PUnit) (fun _ => @List.cons _ x0 (@List.nil _)) (fun _ _ => @List.cons _ x0 (@List.nil _)) (fun _ => @List.cons _ x0 (@List.nil _)) (fun _ _ => @List.cons _ x0 (@List.nil _)) (@List.cons _ x0 (@List.nil _)) (fun _ _ _ _ => @List.cons _ x0 (@List.nil _)) (fun _ _ _ _ => @List.cons _ x0 (@List.nil _)) (@List.cons _ x0 (@List.nil _)) (fun _ => @List.cons _ x0 (@List.nil _)) (@List.cons _ x0 (@List.nil _)) (fun _ _ _ _ _ => @List.cons _ x0 (@List.nil _)) (fun _ => @List.cons _ x0 (@List.nil _)) (@List.cons _ x0 (@List.nil _)) (fun _ x2 _ => @List.cons _ x0 (@List.nil _)) (@List.cons _ x0 (@List.nil _)) (fun x1 _ => x1) (fun _ _ => @List.cons _ x0 (@List.nil _)) PUnit.unit (fun x1 _ _ _ => PUnit.unit) x0)
theorem FAVal_cells_eq : @FAVal_cells = @Go.Abs.AVal.cells := by
  delta FAVal_cells
  funext p0; cases p0 <;> kernel_rfl
noncomputable def Fover_0 : ((x0 : Type) → (x0 → (((List x0) → (Option (List x0))) → ((List x0) → (Option (List x0)))))) :=
  (fun x0 x1 x2 x3 => @List.rec.{1, 0} x0 (fun _ => Option (List x0)) (@Option.none (List x0)) (fun _ x5 _ => @Option.rec.{1, 0} (List x0) (fun _ => Option (List x0)) (@Option.none (List x0)) (fun x7 => @Option.some (List x0) (@List.cons x0 x1 x7)) (x2 x5)) x3)
noncomputable def Fover : ((x0 : Type) → ((List x0) → ((List x0) → (Option (List x0))))) :=
  (fun x0 x1 => @List.rec.{1, 0} x0 (fun _ => ((List x0) → (Option (List x0)))) (fun x2 => @Option.some (List x0) x2) (fun x2 _ x4 x5 => @Fover_0 x0 x2 x4 x5) x1)
theorem Fover_eq : @Fover = @Go.Abs.over := by
  funext p0 p1
  refine @List.rec _ (fun x => @Fover p0 x = @Go.Abs.over p0 x) ?_ ?_ p1
  · skip
    refine Eq.trans (show (@Fover p0 (@List.nil _)) = (fun x0 => @Option.some (List p0) x0) by kernel_rfl) ?_
    kernel_rfl
  · intro f0 f1 h0
    refine Eq.trans (show (@Fover p0 (@List.cons _ f0 f1)) = (fun x0 => @Fover_0 p0 f0 (@Fover p0 f1) x0) by kernel_rfl) ?_
    delta Fover_0
    generalize (@Fover p0 f1) = r0 at h0 ⊢
    subst h0
    kernel_rfl
noncomputable def Fsplice_0 : ((x0 : Type) → (((List x0) → ((List x0) → (Option (List x0)))) → ((List x0) → ((List x0) → (Option (List x0)))))) :=
  (fun x0 x1 x2 x3 => @List.rec.{1, 0} x0 (fun _ => Option (List x0)) (@Option.none (List x0)) (fun x4 x5 _ => @Option.rec.{1, 0} (List x0) (fun _ => Option (List x0)) (@Option.none (List x0)) (fun x7 => @Option.some (List x0) (@List.cons x0 x4 x7)) (x1 x2 x5)) x3)
noncomputable def Fsplice : ((x0 : Type) → (Nat → ((List x0) → ((List x0) → (Option (List x0)))))) :=
  (fun x0 x1 => @Nat.rec.{1} (fun _ => ((List x0) → ((List x0) → (Option (List x0))))) (fun x2 x3 => Fover x0 x2 x3) (fun _ x3 x4 x5 => @Fsplice_0 x0 x3 x4 x5) x1)
theorem Fsplice_eq : @Fsplice = @Go.Abs.splice := by
  funext p0 p1
  refine @Nat.rec  (fun x => @Fsplice p0 x = @Go.Abs.splice p0 x) ?_ ?_ p1
  · skip
    refine Eq.trans (show (@Fsplice p0 (@Nat.zero )) = (fun x0 x1 => Fover p0 x0 x1) by kernel_rfl) ?_
    rw [Fover_eq]
    kernel_rfl
  · intro f0 h0
    refine Eq.trans (show (@Fsplice p0 (@Nat.succ f0)) = (fun x0 x1 => @Fsplice_0 p0 (@Fsplice p0 f0) x0 x1) by kernel_rfl) ?_
    delta Fsplice_0
    generalize (@Fsplice p0 f0) = r0 at h0 ⊢
    subst h0
    kernel_rfl
noncomputable def FfillA : (Nat → Option (Nat × Nat)) → List AVal → List (Nat × AVal) → Option (List AVal) :=
  fun place cells l => @List.rec.{1, 0} _ (fun _ => List AVal → Option (List AVal)) (fun cells => some cells) (fun x _ ih cells => @Option.rec.{1, 0} _ (fun _ => Option (List AVal)) none (fun p => @Bool.rec.{1} (fun _ => Option (List AVal)) none (@Option.rec.{1, 0} _ (fun _ => Option (List AVal)) none (fun c => ih c) (Fsplice AVal p.1 (FAVal_cells x.2) cells)) (Nat.beq (FList_length AVal (FAVal_cells x.2)) p.2)) (place x.1)) l cells
theorem FfillA_eq : @FfillA = @fillA := by
  funext place cells l
  induction l generalizing cells with
  | nil => kernel_rfl
  | cons x l ih =>
    refine Eq.trans (show FfillA place cells (x :: l) = @Option.rec.{1, 0} _ (fun _ => Option (List AVal)) none (fun p => @Bool.rec.{1} (fun _ => Option (List AVal)) none (@Option.rec.{1, 0} _ (fun _ => Option (List AVal)) none (fun c => FfillA place c l) (Fsplice AVal p.1 (FAVal_cells x.2) cells)) (Nat.beq (FList_length AVal (FAVal_cells x.2)) p.2)) (place x.1) by kernel_rfl) ?_
    simp only [ih]
    rw [Fsplice_eq, FAVal_cells_eq, FList_length_eq]
    kernel_rfl
noncomputable def FbuildA_0 : ((List (Prod Nat AVal)) → (AVal → (Nat → (Option AVal)))) :=
  (fun x0 x1 x2 => @Option.rec.{1, 0} _ (fun _ => Option AVal) (@Option.none _) (fun x3 => @Option.some _ (AVal.agg x3)) (FfillA (fun x3 => @Option.some _ (@Prod.mk _ _ (Nat.mul x3 x2) x2)) (FAVal_cells x1) x0))
noncomputable def FbuildA_1 : (AProg → ((List (Prod Nat AVal)) → (AVal → ((Array Go.Field) → (Option AVal))))) :=
  (fun x0 x1 x2 x3 => @Option.rec.{1, 0} _ (fun _ => Option AVal) (@Option.none _) (fun x4 => @Option.rec.{1, 0} _ (fun _ => Option AVal) (@Option.none _) (fun x5 => @Option.some _ (AVal.agg x5)) (FfillA (fun x5 => Fnth (Prod Nat Nat) x5 x4) (FAVal_cells x2) x1)) (FplacesA x0 (@Array.toList Go.Field x3)))
noncomputable def FbuildA_2 : (AProg → ((List (Prod Nat AVal)) → (AVal → (Go.TypeDesc → (Option AVal))))) :=
  (fun x0 x1 x2 x3 => @Go.TypeDesc.rec.{1} (fun x4 => (((Nat.hasNotBit (nat_lit 4608) (Go.TypeDesc.ctorIdx x4)) → (Option AVal)) → (Option AVal))) (fun x4 => x4 (nbq (nat_lit 4608) (nat_lit 0) rfl)) (fun x4 => x4 (nbq (nat_lit 4608) (nat_lit 1) rfl)) (fun x4 x5 => x5 (nbq (nat_lit 4608) (nat_lit 2) rfl)) (fun x4 x5 => x5 (nbq (nat_lit 4608) (nat_lit 3) rfl)) (fun x4 x5 => x5 (nbq (nat_lit 4608) (nat_lit 4) rfl)) (fun x4 => x4 (nbq (nat_lit 4608) (nat_lit 5) rfl)) (fun x4 => x4 (nbq (nat_lit 4608) (nat_lit 6) rfl)) (fun x4 x5 => x5 (nbq (nat_lit 4608) (nat_lit 7) rfl)) (fun x4 x5 => x5 (nbq (nat_lit 4608) (nat_lit 8) rfl)) (fun x4 x5 _ => @Option.rec.{1, 0} _ (fun _ => Option AVal) (@Option.none _) (fun x7 => FbuildA_0 x1 x2 x7) (FsizeA x0 x5)) (fun x4 x5 x6 => x6 (nbq (nat_lit 4608) (nat_lit 10) rfl)) (fun x4 x5 x6 => x6 (nbq (nat_lit 4608) (nat_lit 11) rfl)) (fun x4 _ => FbuildA_1 x0 x1 x2 x4) (fun x4 x5 x6 x7 => x7 (nbq (nat_lit 4608) (nat_lit 13) rfl)) (fun x4 x5 => x5 (nbq (nat_lit 4608) (nat_lit 14) rfl)) (fun x4 x5 => x5 (nbq (nat_lit 4608) (nat_lit 15) rfl)) (fun x4 x5 x6 => x6 (nbq (nat_lit 4608) (nat_lit 16) rfl)) x3 (fun _ => @Option.none _))
noncomputable def FbuildA_3 : (AProg → (Go.TypeId → ((List (Prod Nat AVal)) → (AVal → (Option AVal))))) :=
  (fun x0 x1 x2 x3 => @Option.rec.{1, 0} _ (fun x4 => (((Nat.hasNotBit (nat_lit 2) (@Option.ctorIdx Go.TypeDesc x4)) → (Option AVal)) → (Option AVal))) (fun x4 => x4 (nbq (nat_lit 2) (nat_lit 0) rfl)) (fun x4 _ => FbuildA_2 x0 x2 x3 x4) (Fund x0 x1) (fun _ => @Option.none _))
noncomputable def FbuildA : (AProg → (Go.TypeId → ((List (Prod Nat AVal)) → (Option AVal)))) :=
  (fun x0 x1 x2 => @Option.rec.{1, 0} _ (fun x3 => (((Nat.hasNotBit (nat_lit 2) (@Option.ctorIdx AVal x3)) → (Option AVal)) → (Option AVal))) (fun x3 => x3 (nbq (nat_lit 2) (nat_lit 0) rfl)) (fun x3 _ => FbuildA_3 x0 x1 x2 x3) (FzeroA x0 x1) (fun _ => @Option.none _))
theorem FbuildA_eq : @FbuildA = @Go.Abs.buildA := by
  delta FbuildA
  delta FbuildA_3
  delta FbuildA_2
  delta FbuildA_1
  delta FbuildA_0
  rw [FfillA_eq, FAVal_cells_eq, FsizeA_eq, Fnth_eq, FplacesA_eq, Fund_eq, FzeroA_eq]; kernel_rfl
noncomputable def FqBuild : (AProg → (Env → (Go.TypeId → ((Array (Prod Nat Go.Operand)) → (Option AVal))))) :=
  (fun x0 x1 x2 x3 => @Option.rec.{1, 0} _ (fun _ => Option AVal) (@Option.none _) (fun x4 => FbuildA x0 x2 x4) (FevalParts x1 (@Array.toList (Prod Nat Go.Operand) x3)))
theorem FqBuild_eq : @FqBuild = @Go.Abs.qBuild := by
  delta FqBuild
  rw [FbuildA_eq, FevalParts_eq]; kernel_rfl
noncomputable def FqLoad_0 : (AProg → ((List (PTree AObj)) → (Heap → (Go.TypeId → (AVal → (Option AVal)))))) :=
  (fun x0 x1 x2 x3 x4 => @AVal.rec.{1} (fun x5 => (((Nat.hasNotBit (nat_lit 8) (AVal.ctorIdx x5)) → (Option AVal)) → (Option AVal))) (fun _ => PUnit) (fun x5 x6 => x6 (nbq (nat_lit 8) (nat_lit 0) rfl)) (fun x5 x6 x7 => x7 (nbq (nat_lit 8) (nat_lit 1) rfl)) (fun x5 x6 => x6 (nbq (nat_lit 8) (nat_lit 2) rfl)) (fun x5 x6 _ => FloadA x0 x1 x2 x3 x5 x6) (fun x5 => x5 (nbq (nat_lit 8) (nat_lit 4) rfl)) (fun x5 x6 x7 x8 x9 => x9 (nbq (nat_lit 8) (nat_lit 5) rfl)) (fun x5 x6 x7 x8 x9 => x9 (nbq (nat_lit 8) (nat_lit 6) rfl)) (fun x5 => x5 (nbq (nat_lit 8) (nat_lit 7) rfl)) (fun x5 x6 => x6 (nbq (nat_lit 8) (nat_lit 8) rfl)) (fun x5 => x5 (nbq (nat_lit 8) (nat_lit 9) rfl)) (fun x5 x6 x7 _ _ x10 => x10 (nbq (nat_lit 8) (nat_lit 10) rfl)) (fun x5 x6 => x6 (nbq (nat_lit 8) (nat_lit 11) rfl)) (fun x5 => x5 (nbq (nat_lit 8) (nat_lit 12) rfl)) (fun x5 x6 _ x8 => x8 (nbq (nat_lit 8) (nat_lit 13) rfl)) (fun x5 => x5 (nbq (nat_lit 8) (nat_lit 14) rfl)) (fun x5 _ x7 => x7 (nbq (nat_lit 8) (nat_lit 15) rfl)) (fun x5 _ x7 => x7 (nbq (nat_lit 8) (nat_lit 16) rfl)) PUnit.unit (fun x5 _ _ _ => PUnit.unit) x4 (fun _ => @Option.none _))
noncomputable def FqLoad : (AProg → ((List (PTree AObj)) → (Env → (Heap → (Go.TypeId → (Go.Operand → (Option AVal))))))) :=
  (fun x0 x1 x2 x3 x4 x5 => @Option.rec.{1, 0} _ (fun x6 => (((Nat.hasNotBit (nat_lit 2) (@Option.ctorIdx AVal x6)) → (Option AVal)) → (Option AVal))) (fun x6 => x6 (nbq (nat_lit 2) (nat_lit 0) rfl)) (fun x6 _ => FqLoad_0 x0 x1 x3 x4 x6) (Faeval x2 x5) (fun _ => @Option.none _))
theorem FqLoad_eq : @FqLoad = @Go.Abs.qLoad := by
  delta FqLoad
  delta FqLoad_0
  rw [FloadA_eq, Faeval_eq]; kernel_rfl
noncomputable def FqNilCheck_0 : (AVal → (Option AVal)) :=
  (fun x0 => @AVal.rec.{1} (fun x1 => (((Nat.hasNotBit (nat_lit 8) (AVal.ctorIdx x1)) → (Option AVal)) → (Option AVal))) (fun _ => PUnit) (fun x1 x2 => x2 (nbq (nat_lit 8) (nat_lit 0) rfl)) (fun x1 x2 x3 => x3 (nbq (nat_lit 8) (nat_lit 1) rfl)) (fun x1 x2 => x2 (nbq (nat_lit 8) (nat_lit 2) rfl)) (fun x1 x2 _ => @Option.some _ (AVal.ptr x1 x2)) (fun x1 => x1 (nbq (nat_lit 8) (nat_lit 4) rfl)) (fun x1 x2 x3 x4 x5 => x5 (nbq (nat_lit 8) (nat_lit 5) rfl)) (fun x1 x2 x3 x4 x5 => x5 (nbq (nat_lit 8) (nat_lit 6) rfl)) (fun x1 => x1 (nbq (nat_lit 8) (nat_lit 7) rfl)) (fun x1 x2 => x2 (nbq (nat_lit 8) (nat_lit 8) rfl)) (fun x1 => x1 (nbq (nat_lit 8) (nat_lit 9) rfl)) (fun x1 x2 x3 _ _ x6 => x6 (nbq (nat_lit 8) (nat_lit 10) rfl)) (fun x1 x2 => x2 (nbq (nat_lit 8) (nat_lit 11) rfl)) (fun x1 => x1 (nbq (nat_lit 8) (nat_lit 12) rfl)) (fun x1 x2 _ x4 => x4 (nbq (nat_lit 8) (nat_lit 13) rfl)) (fun x1 => x1 (nbq (nat_lit 8) (nat_lit 14) rfl)) (fun x1 _ x3 => x3 (nbq (nat_lit 8) (nat_lit 15) rfl)) (fun x1 _ x3 => x3 (nbq (nat_lit 8) (nat_lit 16) rfl)) PUnit.unit (fun x1 _ _ _ => PUnit.unit) x0 (fun _ => @Option.none _))
noncomputable def FqNilCheck : (Env → (Go.Operand → (Option AVal))) :=
  (fun x0 x1 => @Option.rec.{1, 0} _ (fun x2 => (((Nat.hasNotBit (nat_lit 2) (@Option.ctorIdx AVal x2)) → (Option AVal)) → (Option AVal))) (fun x2 => x2 (nbq (nat_lit 2) (nat_lit 0) rfl)) (fun x2 _ => FqNilCheck_0 x2) (Faeval x0 x1) (fun _ => @Option.none _))
theorem FqNilCheck_eq : @FqNilCheck = @Go.Abs.qNilCheck := by
  delta FqNilCheck
  delta FqNilCheck_0
  rw [Faeval_eq]; kernel_rfl
noncomputable def FisShift : (Go.BinOp → Bool) :=
  (fun x0 => @Go.BinOp.rec.{1} (fun _ => Bool) Bool.false Bool.false Bool.false Bool.false Bool.false Bool.false Bool.false Bool.false Bool.true Bool.true Bool.false Bool.false Bool.false Bool.false Bool.false Bool.false Bool.false x0)
theorem FisShift_eq : @FisShift = @Go.Abs.isShift := by
  delta FisShift
  funext p0; cases p0 <;> kernel_rfl
noncomputable def FleInt : (Int → (Int → Bool)) :=
  (fun x0 x1 => @Int.rec.{1} (fun _ => Bool) (fun x2 => @Int.rec.{1} (fun _ => Bool) (fun x3 => Nat.ble x2 x3) (fun _ => Bool.false) x1) (fun x2 => @Int.rec.{1} (fun _ => Bool) (fun _ => Bool.true) (fun x3 => Nat.ble x3 x2) x1) x0)
theorem FleInt_eq : @FleInt = @Go.Abs.leInt := by
  delta FleInt
  kernel_rfl
noncomputable def FshiftOp_0 : (Go.IntKind → (Int → (Int → (Option AVal)))) :=
  (fun x0 x1 x2 => @Option.some _ (AVal.int x0 (Go.IntKind.wrap x0 (Int.mul x1 (Int.pow (Int.ofNat (nat_lit 2)) (@Min.min Nat (@minOfLe Nat (@LE.mk _ Nat.le) (fun x3 x4 => @dite (Decidable (Nat.le x3 x4)) (@Eq Bool (Nat.ble x3 x4) Bool.true) (Bool.decEq (Nat.ble x3 x4) Bool.true) (fun x5 => @Decidable.isTrue (Nat.le x3 x4) (@Nat.le_of_ble_eq_true x3 x4 x5)) (fun x5 => @Decidable.isFalse (Nat.le x3 x4) (@Nat.not_le_of_not_ble_eq_true x3 x4 x5)))) (Int.toNat x2) (Go.IntKind.bits x0)))))))
noncomputable def FshiftOp_1 : (Go.IntKind → (Int → (Int → (Option AVal)))) :=
  (fun x0 x1 x2 => @Option.some _ (AVal.int x0 (Int.fdiv x1 (Int.pow (Int.ofNat (nat_lit 2)) (@Min.min Nat (@minOfLe Nat (@LE.mk _ Nat.le) (fun x3 x4 => @dite (Decidable (Nat.le x3 x4)) (@Eq Bool (Nat.ble x3 x4) Bool.true) (Bool.decEq (Nat.ble x3 x4) Bool.true) (fun x5 => @Decidable.isTrue (Nat.le x3 x4) (@Nat.le_of_ble_eq_true x3 x4 x5)) (fun x5 => @Decidable.isFalse (Nat.le x3 x4) (@Nat.not_le_of_not_ble_eq_true x3 x4 x5)))) (Int.toNat x2) (Go.IntKind.bits x0))))))
noncomputable def FshiftOp : (Go.BinOp → (Go.IntKind → (Int → (Int → (Option AVal))))) :=
  (fun x0 x1 x2 x3 => @Go.BinOp.rec.{1} (fun _ => (Go.IntKind → (Int → (Int → (Option AVal))))) (fun _ _ _ => @Option.none _) (fun _ _ _ => @Option.none _) (fun _ _ _ => @Option.none _) (fun _ _ _ => @Option.none _) (fun _ _ _ => @Option.none _) (fun _ _ _ => @Option.none _) (fun _ _ _ => @Option.none _) (fun _ _ _ => @Option.none _) (fun x4 x5 x6 => @Bool.rec.{1} (fun _ => Option AVal) (@Option.none _) (FshiftOp_0 x4 x5 x6) (FleInt (Int.ofNat (nat_lit 0)) x6)) (fun x4 x5 x6 => @Bool.rec.{1} (fun _ => Option AVal) (@Option.none _) (FshiftOp_1 x4 x5 x6) (FleInt (Int.ofNat (nat_lit 0)) x6)) (fun _ _ _ => @Option.none _) (fun _ _ _ => @Option.none _) (fun _ _ _ => @Option.none _) (fun _ _ _ => @Option.none _) (fun _ _ _ => @Option.none _) (fun _ _ _ => @Option.none _) (fun _ _ _ => @Option.none _) x0 x1 x2 x3)
theorem FshiftOp_eq : @FshiftOp = @Go.Abs.shiftOp := by
  delta FshiftOp
  delta FshiftOp_1
  delta FshiftOp_0
  rw [FleInt_eq]; funext p0 p1 p2 p3; cases p0 <;> kernel_rfl
noncomputable def FbeqKind_0 : (Go.IntKind → Bool) :=
  (fun x0 => @Go.IntKind.rec.{1} (fun x1 => (((Nat.hasNotBit (nat_lit 1) (Go.IntKind.ctorIdx x1)) → Bool) → Bool)) (fun _ => Bool.true) (fun x1 => x1 (nbq (nat_lit 1) (nat_lit 1) rfl)) (fun x1 => x1 (nbq (nat_lit 1) (nat_lit 2) rfl)) (fun x1 => x1 (nbq (nat_lit 1) (nat_lit 3) rfl)) (fun x1 => x1 (nbq (nat_lit 1) (nat_lit 4) rfl)) (fun x1 => x1 (nbq (nat_lit 1) (nat_lit 5) rfl)) (fun x1 => x1 (nbq (nat_lit 1) (nat_lit 6) rfl)) (fun x1 => x1 (nbq (nat_lit 1) (nat_lit 7) rfl)) x0 (fun _ => Bool.false))
noncomputable def FbeqKind_1 : (Go.IntKind → Bool) :=
  (fun x0 => @Go.IntKind.rec.{1} (fun x1 => (((Nat.hasNotBit (nat_lit 2) (Go.IntKind.ctorIdx x1)) → Bool) → Bool)) (fun x1 => x1 (nbq (nat_lit 2) (nat_lit 0) rfl)) (fun _ => Bool.true) (fun x1 => x1 (nbq (nat_lit 2) (nat_lit 2) rfl)) (fun x1 => x1 (nbq (nat_lit 2) (nat_lit 3) rfl)) (fun x1 => x1 (nbq (nat_lit 2) (nat_lit 4) rfl)) (fun x1 => x1 (nbq (nat_lit 2) (nat_lit 5) rfl)) (fun x1 => x1 (nbq (nat_lit 2) (nat_lit 6) rfl)) (fun x1 => x1 (nbq (nat_lit 2) (nat_lit 7) rfl)) x0 (fun _ => Bool.false))
noncomputable def FbeqKind_2 : (Go.IntKind → Bool) :=
  (fun x0 => @Go.IntKind.rec.{1} (fun x1 => (((Nat.hasNotBit (nat_lit 4) (Go.IntKind.ctorIdx x1)) → Bool) → Bool)) (fun x1 => x1 (nbq (nat_lit 4) (nat_lit 0) rfl)) (fun x1 => x1 (nbq (nat_lit 4) (nat_lit 1) rfl)) (fun _ => Bool.true) (fun x1 => x1 (nbq (nat_lit 4) (nat_lit 3) rfl)) (fun x1 => x1 (nbq (nat_lit 4) (nat_lit 4) rfl)) (fun x1 => x1 (nbq (nat_lit 4) (nat_lit 5) rfl)) (fun x1 => x1 (nbq (nat_lit 4) (nat_lit 6) rfl)) (fun x1 => x1 (nbq (nat_lit 4) (nat_lit 7) rfl)) x0 (fun _ => Bool.false))
noncomputable def FbeqKind_3 : (Go.IntKind → Bool) :=
  (fun x0 => @Go.IntKind.rec.{1} (fun x1 => (((Nat.hasNotBit (nat_lit 8) (Go.IntKind.ctorIdx x1)) → Bool) → Bool)) (fun x1 => x1 (nbq (nat_lit 8) (nat_lit 0) rfl)) (fun x1 => x1 (nbq (nat_lit 8) (nat_lit 1) rfl)) (fun x1 => x1 (nbq (nat_lit 8) (nat_lit 2) rfl)) (fun _ => Bool.true) (fun x1 => x1 (nbq (nat_lit 8) (nat_lit 4) rfl)) (fun x1 => x1 (nbq (nat_lit 8) (nat_lit 5) rfl)) (fun x1 => x1 (nbq (nat_lit 8) (nat_lit 6) rfl)) (fun x1 => x1 (nbq (nat_lit 8) (nat_lit 7) rfl)) x0 (fun _ => Bool.false))
noncomputable def FbeqKind_4 : (Go.IntKind → Bool) :=
  (fun x0 => @Go.IntKind.rec.{1} (fun x1 => (((Nat.hasNotBit (nat_lit 16) (Go.IntKind.ctorIdx x1)) → Bool) → Bool)) (fun x1 => x1 (nbq (nat_lit 16) (nat_lit 0) rfl)) (fun x1 => x1 (nbq (nat_lit 16) (nat_lit 1) rfl)) (fun x1 => x1 (nbq (nat_lit 16) (nat_lit 2) rfl)) (fun x1 => x1 (nbq (nat_lit 16) (nat_lit 3) rfl)) (fun _ => Bool.true) (fun x1 => x1 (nbq (nat_lit 16) (nat_lit 5) rfl)) (fun x1 => x1 (nbq (nat_lit 16) (nat_lit 6) rfl)) (fun x1 => x1 (nbq (nat_lit 16) (nat_lit 7) rfl)) x0 (fun _ => Bool.false))
noncomputable def FbeqKind_5 : (Go.IntKind → Bool) :=
  (fun x0 => @Go.IntKind.rec.{1} (fun x1 => (((Nat.hasNotBit (nat_lit 32) (Go.IntKind.ctorIdx x1)) → Bool) → Bool)) (fun x1 => x1 (nbq (nat_lit 32) (nat_lit 0) rfl)) (fun x1 => x1 (nbq (nat_lit 32) (nat_lit 1) rfl)) (fun x1 => x1 (nbq (nat_lit 32) (nat_lit 2) rfl)) (fun x1 => x1 (nbq (nat_lit 32) (nat_lit 3) rfl)) (fun x1 => x1 (nbq (nat_lit 32) (nat_lit 4) rfl)) (fun _ => Bool.true) (fun x1 => x1 (nbq (nat_lit 32) (nat_lit 6) rfl)) (fun x1 => x1 (nbq (nat_lit 32) (nat_lit 7) rfl)) x0 (fun _ => Bool.false))
noncomputable def FbeqKind_6 : (Go.IntKind → Bool) :=
  (fun x0 => @Go.IntKind.rec.{1} (fun x1 => (((Nat.hasNotBit (nat_lit 64) (Go.IntKind.ctorIdx x1)) → Bool) → Bool)) (fun x1 => x1 (nbq (nat_lit 64) (nat_lit 0) rfl)) (fun x1 => x1 (nbq (nat_lit 64) (nat_lit 1) rfl)) (fun x1 => x1 (nbq (nat_lit 64) (nat_lit 2) rfl)) (fun x1 => x1 (nbq (nat_lit 64) (nat_lit 3) rfl)) (fun x1 => x1 (nbq (nat_lit 64) (nat_lit 4) rfl)) (fun x1 => x1 (nbq (nat_lit 64) (nat_lit 5) rfl)) (fun _ => Bool.true) (fun x1 => x1 (nbq (nat_lit 64) (nat_lit 7) rfl)) x0 (fun _ => Bool.false))
noncomputable def FbeqKind_7 : (Go.IntKind → Bool) :=
  (fun x0 => @Go.IntKind.rec.{1} (fun x1 => (((Nat.hasNotBit (nat_lit 128) (Go.IntKind.ctorIdx x1)) → Bool) → Bool)) (fun x1 => x1 (nbq (nat_lit 128) (nat_lit 0) rfl)) (fun x1 => x1 (nbq (nat_lit 128) (nat_lit 1) rfl)) (fun x1 => x1 (nbq (nat_lit 128) (nat_lit 2) rfl)) (fun x1 => x1 (nbq (nat_lit 128) (nat_lit 3) rfl)) (fun x1 => x1 (nbq (nat_lit 128) (nat_lit 4) rfl)) (fun x1 => x1 (nbq (nat_lit 128) (nat_lit 5) rfl)) (fun x1 => x1 (nbq (nat_lit 128) (nat_lit 6) rfl)) (fun _ => Bool.true) x0 (fun _ => Bool.false))
noncomputable def FbeqKind : (Go.IntKind → (Go.IntKind → Bool)) :=
  (fun x0 x1 => @Go.IntKind.rec.{1} (fun _ => (Go.IntKind → Bool)) (fun x2 => FbeqKind_0 x2) (fun x2 => FbeqKind_1 x2) (fun x2 => FbeqKind_2 x2) (fun x2 => FbeqKind_3 x2) (fun x2 => FbeqKind_4 x2) (fun x2 => FbeqKind_5 x2) (fun x2 => FbeqKind_6 x2) (fun x2 => FbeqKind_7 x2) x0 x1)
theorem FbeqKind_eq : @FbeqKind = @Go.Abs.beqKind := by
  delta FbeqKind
  delta FbeqKind_7
  delta FbeqKind_6
  delta FbeqKind_5
  delta FbeqKind_4
  delta FbeqKind_3
  delta FbeqKind_2
  delta FbeqKind_1
  delta FbeqKind_0
  funext p0 p1; cases p0 <;> kernel_rfl
noncomputable def FwrapA : (Go.IntKind → (Int → Int)) :=
  (fun x0 x1 => @Go.IntKind.rec.{1} (fun _ => (Int → Int)) (fun x2 => Go.IntKind.wrap x0 x2) (fun x2 => Go.IntKind.wrap x0 x2) (fun x2 => Go.IntKind.wrap x0 x2) (fun x2 => @Int.rec.{1} (fun _ => Int) (fun x3 => @Bool.rec.{1} (fun _ => Int) (Int.ofNat x3) (Go.IntKind.wrap Go.IntKind.i64 (Int.ofNat x3)) (Nat.ble (nat_lit 9223372036854775808) x3)) (fun x3 => Go.IntKind.wrap Go.IntKind.i64 (Int.negSucc x3)) x2) (fun x2 => Go.IntKind.wrap x0 x2) (fun x2 => Go.IntKind.wrap x0 x2) (fun x2 => Go.IntKind.wrap x0 x2) (fun x2 => Go.IntKind.wrap x0 x2) x0 x1)
theorem FwrapA_eq : @FwrapA = @Go.Abs.wrapA := by
  delta FwrapA
  funext p0 p1; cases p0 <;> kernel_rfl
noncomputable def FInt_subNatNat : (Nat → (Nat → Int)) :=
  (fun x0 x1 => @Nat.rec.{1} (fun _ => Int) (Int.ofNat (Nat.sub x0 x1)) (fun x2 _ => Int.negSucc x2) (Nat.sub x1 x0))
theorem FInt_subNatNat_eq : @FInt_subNatNat = @Int.subNatNat := by
  delta FInt_subNatNat
  kernel_rfl
noncomputable def FInt_add : (Int → (Int → Int)) :=
  (fun x0 x1 => @Int.rec.{1} (fun _ => Int) (fun x2 => @Int.rec.{1} (fun _ => Int) (fun x3 => Int.ofNat (Nat.add x2 x3)) (fun x3 => FInt_subNatNat x2 (Nat.succ x3)) x1) (fun x2 => @Int.rec.{1} (fun _ => Int) (fun x3 => FInt_subNatNat x3 (Nat.succ x2)) (fun x3 => Int.negSucc (Nat.succ (Nat.add x2 x3))) x1) x0)
theorem FInt_add_eq : @FInt_add = @Int.add := by
  delta FInt_add
  rw [FInt_subNatNat_eq]; kernel_rfl
noncomputable def FInt_negOfNat : (Nat → Int) :=
  (fun x0 => @Nat.rec.{1} (fun _ => Int) (Int.ofNat (nat_lit 0)) (fun x1 _ => Int.negSucc x1) x0)
theorem FInt_negOfNat_eq : @FInt_negOfNat = @Int.negOfNat := by
  delta FInt_negOfNat
  kernel_rfl
noncomputable def FInt_neg : (Int → Int) :=
  (fun x0 => @Int.rec.{1} (fun _ => Int) (fun x1 => FInt_negOfNat x1) (fun x1 => @Nat.cast Int (@NatCast.mk _ (fun x2 => Int.ofNat x2)) (Nat.succ x1)) x0)
theorem FInt_neg_eq : @FInt_neg = @Int.neg := by
  delta FInt_neg
  rw [FInt_negOfNat_eq]; kernel_rfl
noncomputable def FInt_sub : (Int → (Int → Int)) :=
  (fun x0 x1 => FInt_add x0 (FInt_neg x1))
theorem FInt_sub_eq : @FInt_sub = @Int.sub := by
  delta FInt_sub
  rw [FInt_add_eq, FInt_neg_eq]; kernel_rfl
noncomputable def FbeqInt : (Int → (Int → Bool)) :=
  (fun x0 x1 => @Int.rec.{1} (fun _ => Bool) (fun x2 => @Int.rec.{1} (fun _ => Bool) (fun x3 => Nat.beq x2 x3) (fun _ => Bool.false) x1) (fun x2 => @Int.rec.{1} (fun _ => Bool) (fun _ => Bool.false) (fun x3 => Nat.beq x2 x3) x1) x0)
theorem FbeqInt_eq : @FbeqInt = @Go.Abs.beqInt := by
  delta FbeqInt
  kernel_rfl
noncomputable def FintOp_0 : (Go.IntKind → (Int → (Int → (Option AVal)))) :=
  (fun x0 x1 x2 => @Option.some _ (AVal.int x0 (Go.IntKind.wrap x0 (@Nat.cast Int (@NatCast.mk _ (fun x3 => Int.ofNat x3)) (@BitVec.toNat (Go.IntKind.bits x0) (@BitVec.and (Go.IntKind.bits x0) (BitVec.ofInt (Go.IntKind.bits x0) x1) (BitVec.ofInt (Go.IntKind.bits x0) x2)))))))
noncomputable def FintOp_1 : (Go.IntKind → (Int → (Int → (Option AVal)))) :=
  (fun x0 x1 x2 => @Option.some _ (AVal.int x0 (Go.IntKind.wrap x0 (@Nat.cast Int (@NatCast.mk _ (fun x3 => Int.ofNat x3)) (@BitVec.toNat (Go.IntKind.bits x0) (@BitVec.or (Go.IntKind.bits x0) (BitVec.ofInt (Go.IntKind.bits x0) x1) (BitVec.ofInt (Go.IntKind.bits x0) x2)))))))
noncomputable def FintOp_2 : (Go.IntKind → (Int → (Int → (Option AVal)))) :=
  (fun x0 x1 x2 => @Option.some _ (AVal.int x0 (Go.IntKind.wrap x0 (@Nat.cast Int (@NatCast.mk _ (fun x3 => Int.ofNat x3)) (@BitVec.toNat (Go.IntKind.bits x0) (@BitVec.xor (Go.IntKind.bits x0) (BitVec.ofInt (Go.IntKind.bits x0) x1) (BitVec.ofInt (Go.IntKind.bits x0) x2)))))))
noncomputable def FintOp_3 : (Go.IntKind → (Int → (Int → (Option AVal)))) :=
  (fun x0 x1 x2 => @Option.some _ (AVal.int x0 (Go.IntKind.wrap x0 (@Nat.cast Int (@NatCast.mk _ (fun x3 => Int.ofNat x3)) (@BitVec.toNat (Go.IntKind.bits x0) (@BitVec.and (Go.IntKind.bits x0) (BitVec.ofInt (Go.IntKind.bits x0) x1) (@BitVec.not (Go.IntKind.bits x0) (BitVec.ofInt (Go.IntKind.bits x0) x2))))))))
noncomputable def FintOp : (Go.BinOp → (Go.IntKind → (Int → (Int → (Option AVal))))) :=
  (fun x0 x1 x2 x3 => @Go.BinOp.rec.{1} (fun _ => (Go.IntKind → (Int → (Int → (Option AVal))))) (fun x4 x5 x6 => @Option.some _ (AVal.int x4 (FwrapA x4 (FInt_add x5 x6)))) (fun x4 x5 x6 => @Option.some _ (AVal.int x4 (FwrapA x4 (FInt_sub x5 x6)))) (fun x4 x5 x6 => @Option.some _ (AVal.int x4 (FwrapA x4 (Int.mul x5 x6)))) (fun x4 x5 x6 => @Bool.rec.{1} (fun _ => Option AVal) (@Option.some _ (AVal.int x4 (Go.IntKind.wrap x4 (Int.tdiv x5 x6)))) (@Option.none _) (FbeqInt x6 (Int.ofNat (nat_lit 0)))) (fun x4 x5 x6 => @Bool.rec.{1} (fun _ => Option AVal) (@Option.some _ (AVal.int x4 (Int.tmod x5 x6))) (@Option.none _) (FbeqInt x6 (Int.ofNat (nat_lit 0)))) (fun x4 x5 x6 => FintOp_0 x4 x5 x6) (fun x4 x5 x6 => FintOp_1 x4 x5 x6) (fun x4 x5 x6 => FintOp_2 x4 x5 x6) (fun _ _ _ => @Option.none _) (fun _ _ _ => @Option.none _) (fun x4 x5 x6 => FintOp_3 x4 x5 x6) (fun _ x5 x6 => @Option.some _ (AVal.bool (FbeqInt x5 x6))) (fun _ x5 x6 => @Option.some _ (AVal.bool (Bool.not (FbeqInt x5 x6)))) (fun _ x5 x6 => @Option.some _ (AVal.bool (Bool.not (FleInt x6 x5)))) (fun _ x5 x6 => @Option.some _ (AVal.bool (FleInt x5 x6))) (fun _ x5 x6 => @Option.some _ (AVal.bool (Bool.not (FleInt x5 x6)))) (fun _ x5 x6 => @Option.some _ (AVal.bool (FleInt x6 x5))) x0 x1 x2 x3)
theorem FintOp_eq : @FintOp = @Go.Abs.intOp := by
  delta FintOp
  delta FintOp_3
  delta FintOp_2
  delta FintOp_1
  delta FintOp_0
  rw [FwrapA_eq, FInt_add_eq, FInt_sub_eq, FbeqInt_eq, FleInt_eq]; funext p0 p1 p2 p3; cases p0 <;> kernel_rfl
noncomputable def FbeqStr : ((List Nat) → ((List Nat) → Bool)) :=
  (fun x0 => @List.rec.{1, 0} _ (fun _ => ((List Nat) → Bool)) (fun x1 => @List.rec.{1, 0} _ (fun _ => Bool) Bool.true (fun _ _ _ => Bool.false) x1) (fun x1 _ x3 x4 => @List.rec.{1, 0} _ (fun _ => Bool) Bool.false (fun x5 x6 _ => @Bool.rec.{1} (fun _ => Bool) Bool.false (x3 x6) (Nat.beq x1 x5)) x4) x0)
theorem FbeqStr_eq : @FbeqStr = @Go.Abs.beqStr := by
  funext p0
  refine @List.rec _ (fun x => @FbeqStr x = @Go.Abs.beqStr x) ?_ ?_ p0
  · skip
    refine Eq.trans (show (@FbeqStr (@List.nil _)) = (fun x0 => @List.rec.{1, 0} _ (fun _ => Bool) Bool.true (fun _ _ _ => Bool.false) x0) by kernel_rfl) ?_
    kernel_rfl
  · intro f0 f1 h0
    refine Eq.trans (show (@FbeqStr (@List.cons _ f0 f1)) = (fun x0 => @List.rec.{1, 0} _ (fun _ => Bool) Bool.false (fun x1 x2 _ => @Bool.rec.{1} (fun _ => Bool) Bool.false ((@FbeqStr f1) x2) (Nat.beq f0 x1)) x0) by kernel_rfl) ?_
    generalize (@FbeqStr f1) = r0 at h0 ⊢
    subst h0
    kernel_rfl
noncomputable def FList_append : ((x0 : Type) → ((List x0) → ((List x0) → (List x0)))) :=
  (fun x0 x1 => @List.rec.{1, 0} x0 (fun _ => ((List x0) → (List x0))) (fun x2 => x2) (fun x2 _ x4 x5 => @List.cons x0 x2 (x4 x5)) x1)
theorem FList_append_eq : @FList_append = @List.append.{0} := by
  funext p0 p1
  refine @List.rec _ (fun x => @FList_append p0 x = @List.append.{0} p0 x) ?_ ?_ p1
  · skip
    refine Eq.trans (show (@FList_append p0 (@List.nil _)) = (fun x0 => x0) by kernel_rfl) ?_
    kernel_rfl
  · intro f0 f1 h0
    refine Eq.trans (show (@FList_append p0 (@List.cons _ f0 f1)) = (fun x0 => @List.cons p0 f0 ((@FList_append p0 f1) x0)) by kernel_rfl) ?_
    generalize (@FList_append p0 f1) = r0 at h0 ⊢
    subst h0
    kernel_rfl
noncomputable def FstrOp : (Go.BinOp → ((List Nat) → ((List Nat) → (Option AVal)))) :=
  (fun x0 x1 x2 => @Go.BinOp.rec.{1} (fun _ => ((List Nat) → ((List Nat) → (Option AVal)))) (fun x3 x4 => @Bool.rec.{1} (fun _ => Option AVal) (@Option.none _) (@Option.some _ (AVal.str (FList_append Nat x3 x4))) (Nat.ble (Nat.add (FList_length Nat x3) (FList_length Nat x4)) (nat_lit 1048576))) (fun _ _ => @Option.none _) (fun _ _ => @Option.none _) (fun _ _ => @Option.none _) (fun _ _ => @Option.none _) (fun _ _ => @Option.none _) (fun _ _ => @Option.none _) (fun _ _ => @Option.none _) (fun _ _ => @Option.none _) (fun _ _ => @Option.none _) (fun _ _ => @Option.none _) (fun x3 x4 => @Option.some _ (AVal.bool (FbeqStr x3 x4))) (fun x3 x4 => @Option.some _ (AVal.bool (Bool.not (FbeqStr x3 x4)))) (fun _ _ => @Option.none _) (fun _ _ => @Option.none _) (fun _ _ => @Option.none _) (fun _ _ => @Option.none _) x0 x1 x2)
theorem FstrOp_eq : @FstrOp = @Go.Abs.strOp := by
  delta FstrOp
  rw [FList_append_eq, FList_length_eq, FbeqStr_eq]; funext p0 p1 p2; cases p0 <;> kernel_rfl
noncomputable def FisConst : (Go.Operand → Bool) :=
  (fun x0 => @Go.Operand.rec.{1} (fun _ => Bool) (fun _ => Bool.false) (fun _ => Bool.true) (fun _ => Bool.false) (fun _ => Bool.false) x0)
theorem FisConst_eq : @FisConst = @Go.Abs.isConst := by
  delta FisConst
  funext p0; cases p0 <;> kernel_rfl
noncomputable def FPos_beq : Pos → Pos → Bool :=
  fun p => @Pos.rec.{1} (fun _ => Pos → Bool) (fun q => @Pos.rec.{1} (fun _ => Bool) true (fun _ _ => false) (fun _ _ => false) q) (fun _ ih q => @Pos.rec.{1} (fun _ => Bool) false (fun q _ => ih q) (fun _ _ => false) q) (fun _ ih q => @Pos.rec.{1} (fun _ => Bool) false (fun _ _ => false) (fun q _ => ih q) q) p
theorem FPos_beq_eq : @FPos_beq = @Pos.beq := by
  funext p
  induction p with
  | H => funext q; cases q <;> kernel_rfl
  | O p ih =>
    funext q
    cases q with
    | H => kernel_rfl
    | O q => exact Eq.trans (show FPos_beq (.O p) (.O q) = FPos_beq p q by kernel_rfl) (by rw [ih]; kernel_rfl)
    | I q => kernel_rfl
  | I p ih =>
    funext q
    cases q with
    | H => kernel_rfl
    | O q => kernel_rfl
    | I q => exact Eq.trans (show FPos_beq (.I p) (.I q) = FPos_beq p q by kernel_rfl) (by rw [ih]; kernel_rfl)
noncomputable def FplainBlock_0 : (AObj → Bool) :=
  (fun x0 => @AObj.rec.{1} (fun x1 => (((Nat.hasNotBit (nat_lit 1) (AObj.ctorIdx x1)) → Bool) → Bool)) (fun x1 x2 x3 x4 _ => @Bool.rec.{1} (fun x6 => (((Nat.hasNotBit (nat_lit 1) (Bool.ctorIdx x6)) → Bool) → Bool)) (fun _ => Bool.true) (fun x6 => x6 (nbq (nat_lit 1) (nat_lit 1) rfl)) x3 (fun _ => Bool.false)) (fun x1 x2 x3 => x3 (nbq (nat_lit 1) (nat_lit 1) rfl)) (fun x1 x2 x3 => x3 (nbq (nat_lit 1) (nat_lit 2) rfl)) (fun x1 x2 x3 x4 => x4 (nbq (nat_lit 1) (nat_lit 3) rfl)) (fun x1 x2 => x2 (nbq (nat_lit 1) (nat_lit 4) rfl)) (fun x1 x2 => x2 (nbq (nat_lit 1) (nat_lit 5) rfl)) (fun x1 => x1 (nbq (nat_lit 1) (nat_lit 6) rfl)) x0 (fun _ => Bool.false))
noncomputable def FplainBlock : ((List (PTree AObj)) → (Heap → (Pos → Bool))) :=
  (fun x0 x1 x2 => @Option.rec.{1, 0} _ (fun x3 => (((Nat.hasNotBit (nat_lit 2) (@Option.ctorIdx AObj x3)) → Bool) → Bool)) (fun x3 => x3 (nbq (nat_lit 2) (nat_lit 0) rfl)) (fun x3 _ => FplainBlock_0 x3) (Fhget x0 x1 x2) (fun _ => Bool.false))
theorem FplainBlock_eq : @FplainBlock = @Go.Abs.plainBlock := by
  delta FplainBlock
  delta FplainBlock_0
  rw [Fhget_eq]; kernel_rfl
noncomputable def FeqPtr_0 : ((List (PTree AObj)) → (Heap → (Pos → (Nat → (Pos → (Nat → (Option Bool))))))) :=
  (fun x0 x1 x2 x3 x4 x5 => @Bool.rec.{1} (fun _ => Option Bool) (@Bool.rec.{1} (fun _ => Option Bool) (@Option.none _) (@Option.some _ Bool.false) (Bool.and (FplainBlock x0 x1 x2) (FplainBlock x0 x1 x4))) (@Option.some _ (Nat.beq x3 x5)) (FPos_beq x2 x4))
noncomputable def FeqPtr_1 : ((List (PTree AObj)) → (Heap → (Pos → (Nat → (Pos → (Nat → (Nat → (Option Bool)))))))) :=
  (fun x0 x1 x2 x3 x4 x5 x6 => @Nat.rec.{1} (fun x7 => (((Nat.hasNotBit (nat_lit 2) (Nat.ctorIdx x7)) → (Option Bool)) → (Option Bool))) (fun x7 => x7 (nbq (nat_lit 2) (nat_lit 0) rfl)) (fun x7 _ _ => FeqPtr_0 x0 x1 x2 x3 x4 x5) x6 (fun _ => @Option.none _))
noncomputable def FeqPtr : (AProg → ((List (PTree AObj)) → (Heap → (Go.TypeId → (Pos → (Nat → (Pos → (Nat → (Option Bool))))))))) :=
  (fun x0 x1 x2 x3 x4 x5 x6 x7 => @Option.rec.{1, 0} _ (fun x8 => (((Nat.hasNotBit (nat_lit 2) (@Option.ctorIdx Nat x8)) → (Option Bool)) → (Option Bool))) (fun x8 => x8 (nbq (nat_lit 2) (nat_lit 0) rfl)) (fun x8 _ => FeqPtr_1 x1 x2 x4 x5 x6 x7 x8) (FsizeA x0 x3) (fun _ => @Option.none _))
theorem FeqPtr_eq : @FeqPtr = @Go.Abs.eqPtr := by
  delta FeqPtr
  delta FeqPtr_1
  delta FeqPtr_0
  rw [FplainBlock_eq, FPos_beq_eq, FsizeA_eq]; kernel_rfl
noncomputable def FeqScalar_0 : (AVal → (Bool → (Option Bool))) :=
  (fun x0 x1 => @AVal.rec.{1} (fun x2 => (((Nat.hasNotBit (nat_lit 1) (AVal.ctorIdx x2)) → (Option Bool)) → (Option Bool))) (fun _ => PUnit) (fun x2 _ => @Option.some _ (FbeqBool x1 x2)) (fun x2 x3 x4 => x4 (nbq (nat_lit 1) (nat_lit 1) rfl)) (fun x2 x3 => x3 (nbq (nat_lit 1) (nat_lit 2) rfl)) (fun x2 x3 x4 => x4 (nbq (nat_lit 1) (nat_lit 3) rfl)) (fun x2 => x2 (nbq (nat_lit 1) (nat_lit 4) rfl)) (fun x2 x3 x4 x5 x6 => x6 (nbq (nat_lit 1) (nat_lit 5) rfl)) (fun x2 x3 x4 x5 x6 => x6 (nbq (nat_lit 1) (nat_lit 6) rfl)) (fun x2 => x2 (nbq (nat_lit 1) (nat_lit 7) rfl)) (fun x2 x3 => x3 (nbq (nat_lit 1) (nat_lit 8) rfl)) (fun x2 => x2 (nbq (nat_lit 1) (nat_lit 9) rfl)) (fun x2 x3 x4 _ _ x7 => x7 (nbq (nat_lit 1) (nat_lit 10) rfl)) (fun x2 x3 => x3 (nbq (nat_lit 1) (nat_lit 11) rfl)) (fun x2 => x2 (nbq (nat_lit 1) (nat_lit 12) rfl)) (fun x2 x3 _ x5 => x5 (nbq (nat_lit 1) (nat_lit 13) rfl)) (fun x2 => x2 (nbq (nat_lit 1) (nat_lit 14) rfl)) (fun x2 _ x4 => x4 (nbq (nat_lit 1) (nat_lit 15) rfl)) (fun x2 _ x4 => x4 (nbq (nat_lit 1) (nat_lit 16) rfl)) PUnit.unit (fun x2 _ _ _ => PUnit.unit) x0 (fun _ => @Option.none _))
noncomputable def FeqScalar_1 : (AVal → (AVal → (Option Bool))) :=
  (fun x0 x1 => @AVal.rec.{1} (fun x2 => (((Nat.hasNotBit (nat_lit 1) (AVal.ctorIdx x2)) → (Option Bool)) → (Option Bool))) (fun _ => PUnit) (fun x2 _ => FeqScalar_0 x1 x2) (fun x2 x3 x4 => x4 (nbq (nat_lit 1) (nat_lit 1) rfl)) (fun x2 x3 => x3 (nbq (nat_lit 1) (nat_lit 2) rfl)) (fun x2 x3 x4 => x4 (nbq (nat_lit 1) (nat_lit 3) rfl)) (fun x2 => x2 (nbq (nat_lit 1) (nat_lit 4) rfl)) (fun x2 x3 x4 x5 x6 => x6 (nbq (nat_lit 1) (nat_lit 5) rfl)) (fun x2 x3 x4 x5 x6 => x6 (nbq (nat_lit 1) (nat_lit 6) rfl)) (fun x2 => x2 (nbq (nat_lit 1) (nat_lit 7) rfl)) (fun x2 x3 => x3 (nbq (nat_lit 1) (nat_lit 8) rfl)) (fun x2 => x2 (nbq (nat_lit 1) (nat_lit 9) rfl)) (fun x2 x3 x4 _ _ x7 => x7 (nbq (nat_lit 1) (nat_lit 10) rfl)) (fun x2 x3 => x3 (nbq (nat_lit 1) (nat_lit 11) rfl)) (fun x2 => x2 (nbq (nat_lit 1) (nat_lit 12) rfl)) (fun x2 x3 _ x5 => x5 (nbq (nat_lit 1) (nat_lit 13) rfl)) (fun x2 => x2 (nbq (nat_lit 1) (nat_lit 14) rfl)) (fun x2 _ x4 => x4 (nbq (nat_lit 1) (nat_lit 15) rfl)) (fun x2 _ x4 => x4 (nbq (nat_lit 1) (nat_lit 16) rfl)) PUnit.unit (fun x2 _ _ _ => PUnit.unit) x0 (fun _ => @Option.none _))
noncomputable def FeqScalar_2 : (AVal → (Go.IntKind → (Int → (Option Bool)))) :=
  (fun x0 x1 x2 => @AVal.rec.{1} (fun x3 => (((Nat.hasNotBit (nat_lit 2) (AVal.ctorIdx x3)) → (Option Bool)) → (Option Bool))) (fun _ => PUnit) (fun x3 x4 => x4 (nbq (nat_lit 2) (nat_lit 0) rfl)) (fun x3 x4 _ => @Bool.rec.{1} (fun _ => Option Bool) (@Option.none _) (@Option.some _ (FbeqInt x2 x4)) (FbeqKind x1 x3)) (fun x3 x4 => x4 (nbq (nat_lit 2) (nat_lit 2) rfl)) (fun x3 x4 x5 => x5 (nbq (nat_lit 2) (nat_lit 3) rfl)) (fun x3 => x3 (nbq (nat_lit 2) (nat_lit 4) rfl)) (fun x3 x4 x5 x6 x7 => x7 (nbq (nat_lit 2) (nat_lit 5) rfl)) (fun x3 x4 x5 x6 x7 => x7 (nbq (nat_lit 2) (nat_lit 6) rfl)) (fun x3 => x3 (nbq (nat_lit 2) (nat_lit 7) rfl)) (fun x3 x4 => x4 (nbq (nat_lit 2) (nat_lit 8) rfl)) (fun x3 => x3 (nbq (nat_lit 2) (nat_lit 9) rfl)) (fun x3 x4 x5 _ _ x8 => x8 (nbq (nat_lit 2) (nat_lit 10) rfl)) (fun x3 x4 => x4 (nbq (nat_lit 2) (nat_lit 11) rfl)) (fun x3 => x3 (nbq (nat_lit 2) (nat_lit 12) rfl)) (fun x3 x4 _ x6 => x6 (nbq (nat_lit 2) (nat_lit 13) rfl)) (fun x3 => x3 (nbq (nat_lit 2) (nat_lit 14) rfl)) (fun x3 _ x5 => x5 (nbq (nat_lit 2) (nat_lit 15) rfl)) (fun x3 _ x5 => x5 (nbq (nat_lit 2) (nat_lit 16) rfl)) PUnit.unit (fun x3 _ _ _ => PUnit.unit) x0 (fun _ => @Option.none _))
noncomputable def FeqScalar_3 : (AVal → (AVal → (Option Bool))) :=
  (fun x0 x1 => @AVal.rec.{1} (fun x2 => (((Nat.hasNotBit (nat_lit 2) (AVal.ctorIdx x2)) → (Option Bool)) → (Option Bool))) (fun _ => PUnit) (fun x2 x3 => x3 (nbq (nat_lit 2) (nat_lit 0) rfl)) (fun x2 x3 _ => FeqScalar_2 x1 x2 x3) (fun x2 x3 => x3 (nbq (nat_lit 2) (nat_lit 2) rfl)) (fun x2 x3 x4 => x4 (nbq (nat_lit 2) (nat_lit 3) rfl)) (fun x2 => x2 (nbq (nat_lit 2) (nat_lit 4) rfl)) (fun x2 x3 x4 x5 x6 => x6 (nbq (nat_lit 2) (nat_lit 5) rfl)) (fun x2 x3 x4 x5 x6 => x6 (nbq (nat_lit 2) (nat_lit 6) rfl)) (fun x2 => x2 (nbq (nat_lit 2) (nat_lit 7) rfl)) (fun x2 x3 => x3 (nbq (nat_lit 2) (nat_lit 8) rfl)) (fun x2 => x2 (nbq (nat_lit 2) (nat_lit 9) rfl)) (fun x2 x3 x4 _ _ x7 => x7 (nbq (nat_lit 2) (nat_lit 10) rfl)) (fun x2 x3 => x3 (nbq (nat_lit 2) (nat_lit 11) rfl)) (fun x2 => x2 (nbq (nat_lit 2) (nat_lit 12) rfl)) (fun x2 x3 _ x5 => x5 (nbq (nat_lit 2) (nat_lit 13) rfl)) (fun x2 => x2 (nbq (nat_lit 2) (nat_lit 14) rfl)) (fun x2 _ x4 => x4 (nbq (nat_lit 2) (nat_lit 15) rfl)) (fun x2 _ x4 => x4 (nbq (nat_lit 2) (nat_lit 16) rfl)) PUnit.unit (fun x2 _ _ _ => PUnit.unit) x0 (fun _ => @Option.none _))
noncomputable def FeqScalar_4 : (AVal → ((List Nat) → (Option Bool))) :=
  (fun x0 x1 => @AVal.rec.{1} (fun x2 => (((Nat.hasNotBit (nat_lit 4) (AVal.ctorIdx x2)) → (Option Bool)) → (Option Bool))) (fun _ => PUnit) (fun x2 x3 => x3 (nbq (nat_lit 4) (nat_lit 0) rfl)) (fun x2 x3 x4 => x4 (nbq (nat_lit 4) (nat_lit 1) rfl)) (fun x2 _ => @Option.some _ (FbeqStr x1 x2)) (fun x2 x3 x4 => x4 (nbq (nat_lit 4) (nat_lit 3) rfl)) (fun x2 => x2 (nbq (nat_lit 4) (nat_lit 4) rfl)) (fun x2 x3 x4 x5 x6 => x6 (nbq (nat_lit 4) (nat_lit 5) rfl)) (fun x2 x3 x4 x5 x6 => x6 (nbq (nat_lit 4) (nat_lit 6) rfl)) (fun x2 => x2 (nbq (nat_lit 4) (nat_lit 7) rfl)) (fun x2 x3 => x3 (nbq (nat_lit 4) (nat_lit 8) rfl)) (fun x2 => x2 (nbq (nat_lit 4) (nat_lit 9) rfl)) (fun x2 x3 x4 _ _ x7 => x7 (nbq (nat_lit 4) (nat_lit 10) rfl)) (fun x2 x3 => x3 (nbq (nat_lit 4) (nat_lit 11) rfl)) (fun x2 => x2 (nbq (nat_lit 4) (nat_lit 12) rfl)) (fun x2 x3 _ x5 => x5 (nbq (nat_lit 4) (nat_lit 13) rfl)) (fun x2 => x2 (nbq (nat_lit 4) (nat_lit 14) rfl)) (fun x2 _ x4 => x4 (nbq (nat_lit 4) (nat_lit 15) rfl)) (fun x2 _ x4 => x4 (nbq (nat_lit 4) (nat_lit 16) rfl)) PUnit.unit (fun x2 _ _ _ => PUnit.unit) x0 (fun _ => @Option.none _))
noncomputable def FeqScalar_5 : (AVal → (AVal → (Option Bool))) :=
  (fun x0 x1 => @AVal.rec.{1} (fun x2 => (((Nat.hasNotBit (nat_lit 4) (AVal.ctorIdx x2)) → (Option Bool)) → (Option Bool))) (fun _ => PUnit) (fun x2 x3 => x3 (nbq (nat_lit 4) (nat_lit 0) rfl)) (fun x2 x3 x4 => x4 (nbq (nat_lit 4) (nat_lit 1) rfl)) (fun x2 _ => FeqScalar_4 x1 x2) (fun x2 x3 x4 => x4 (nbq (nat_lit 4) (nat_lit 3) rfl)) (fun x2 => x2 (nbq (nat_lit 4) (nat_lit 4) rfl)) (fun x2 x3 x4 x5 x6 => x6 (nbq (nat_lit 4) (nat_lit 5) rfl)) (fun x2 x3 x4 x5 x6 => x6 (nbq (nat_lit 4) (nat_lit 6) rfl)) (fun x2 => x2 (nbq (nat_lit 4) (nat_lit 7) rfl)) (fun x2 x3 => x3 (nbq (nat_lit 4) (nat_lit 8) rfl)) (fun x2 => x2 (nbq (nat_lit 4) (nat_lit 9) rfl)) (fun x2 x3 x4 _ _ x7 => x7 (nbq (nat_lit 4) (nat_lit 10) rfl)) (fun x2 x3 => x3 (nbq (nat_lit 4) (nat_lit 11) rfl)) (fun x2 => x2 (nbq (nat_lit 4) (nat_lit 12) rfl)) (fun x2 x3 _ x5 => x5 (nbq (nat_lit 4) (nat_lit 13) rfl)) (fun x2 => x2 (nbq (nat_lit 4) (nat_lit 14) rfl)) (fun x2 _ x4 => x4 (nbq (nat_lit 4) (nat_lit 15) rfl)) (fun x2 _ x4 => x4 (nbq (nat_lit 4) (nat_lit 16) rfl)) PUnit.unit (fun x2 _ _ _ => PUnit.unit) x0 (fun _ => @Option.none _))
noncomputable def FeqScalar_6 : (AVal → (Option Bool)) :=
  (fun x0 => @AVal.rec.{1} (fun x1 => (((Nat.hasNotBit (nat_lit 16) (AVal.ctorIdx x1)) → (Option Bool)) → (Option Bool))) (fun _ => PUnit) (fun x1 x2 => x2 (nbq (nat_lit 16) (nat_lit 0) rfl)) (fun x1 x2 x3 => x3 (nbq (nat_lit 16) (nat_lit 1) rfl)) (fun x1 x2 => x2 (nbq (nat_lit 16) (nat_lit 2) rfl)) (fun x1 x2 x3 => x3 (nbq (nat_lit 16) (nat_lit 3) rfl)) (fun _ => @Option.some _ Bool.false) (fun x1 x2 x3 x4 x5 => x5 (nbq (nat_lit 16) (nat_lit 5) rfl)) (fun x1 x2 x3 x4 x5 => x5 (nbq (nat_lit 16) (nat_lit 6) rfl)) (fun x1 => x1 (nbq (nat_lit 16) (nat_lit 7) rfl)) (fun x1 x2 => x2 (nbq (nat_lit 16) (nat_lit 8) rfl)) (fun x1 => x1 (nbq (nat_lit 16) (nat_lit 9) rfl)) (fun x1 x2 x3 _ _ x6 => x6 (nbq (nat_lit 16) (nat_lit 10) rfl)) (fun x1 x2 => x2 (nbq (nat_lit 16) (nat_lit 11) rfl)) (fun x1 => x1 (nbq (nat_lit 16) (nat_lit 12) rfl)) (fun x1 x2 _ x4 => x4 (nbq (nat_lit 16) (nat_lit 13) rfl)) (fun x1 => x1 (nbq (nat_lit 16) (nat_lit 14) rfl)) (fun x1 _ x3 => x3 (nbq (nat_lit 16) (nat_lit 15) rfl)) (fun x1 _ x3 => x3 (nbq (nat_lit 16) (nat_lit 16) rfl)) PUnit.unit (fun x1 _ _ _ => PUnit.unit) x0 (fun _ => @Option.none _))
noncomputable def FeqScalar_7 : (AVal → (Option Bool)) :=
  (fun x0 => @AVal.rec.{1} (fun x1 => (((Nat.hasNotBit (nat_lit 24) (AVal.ctorIdx x1)) → (Option Bool)) → (Option Bool))) (fun _ => PUnit) (fun x1 x2 => x2 (nbq (nat_lit 24) (nat_lit 0) rfl)) (fun x1 x2 x3 => x3 (nbq (nat_lit 24) (nat_lit 1) rfl)) (fun x1 x2 => x2 (nbq (nat_lit 24) (nat_lit 2) rfl)) (fun x1 x2 _ => @Option.some _ Bool.false) (fun _ => @Option.some _ Bool.true) (fun x1 x2 x3 x4 x5 => x5 (nbq (nat_lit 24) (nat_lit 5) rfl)) (fun x1 x2 x3 x4 x5 => x5 (nbq (nat_lit 24) (nat_lit 6) rfl)) (fun x1 => x1 (nbq (nat_lit 24) (nat_lit 7) rfl)) (fun x1 x2 => x2 (nbq (nat_lit 24) (nat_lit 8) rfl)) (fun x1 => x1 (nbq (nat_lit 24) (nat_lit 9) rfl)) (fun x1 x2 x3 _ _ x6 => x6 (nbq (nat_lit 24) (nat_lit 10) rfl)) (fun x1 x2 => x2 (nbq (nat_lit 24) (nat_lit 11) rfl)) (fun x1 => x1 (nbq (nat_lit 24) (nat_lit 12) rfl)) (fun x1 x2 _ x4 => x4 (nbq (nat_lit 24) (nat_lit 13) rfl)) (fun x1 => x1 (nbq (nat_lit 24) (nat_lit 14) rfl)) (fun x1 _ x3 => x3 (nbq (nat_lit 24) (nat_lit 15) rfl)) (fun x1 _ x3 => x3 (nbq (nat_lit 24) (nat_lit 16) rfl)) PUnit.unit (fun x1 _ _ _ => PUnit.unit) x0 (fun _ => @Option.none _))
noncomputable def FeqScalar_8 : (AVal → (AVal → (Option Bool))) :=
  (fun x0 x1 => @AVal.rec.{1} (fun x2 => (((Nat.hasNotBit (nat_lit 24) (AVal.ctorIdx x2)) → (Option Bool)) → (Option Bool))) (fun _ => PUnit) (fun x2 x3 => x3 (nbq (nat_lit 24) (nat_lit 0) rfl)) (fun x2 x3 x4 => x4 (nbq (nat_lit 24) (nat_lit 1) rfl)) (fun x2 x3 => x3 (nbq (nat_lit 24) (nat_lit 2) rfl)) (fun x2 x3 _ => FeqScalar_6 x1) (fun _ => FeqScalar_7 x1) (fun x2 x3 x4 x5 x6 => x6 (nbq (nat_lit 24) (nat_lit 5) rfl)) (fun x2 x3 x4 x5 x6 => x6 (nbq (nat_lit 24) (nat_lit 6) rfl)) (fun x2 => x2 (nbq (nat_lit 24) (nat_lit 7) rfl)) (fun x2 x3 => x3 (nbq (nat_lit 24) (nat_lit 8) rfl)) (fun x2 => x2 (nbq (nat_lit 24) (nat_lit 9) rfl)) (fun x2 x3 x4 _ _ x7 => x7 (nbq (nat_lit 24) (nat_lit 10) rfl)) (fun x2 x3 => x3 (nbq (nat_lit 24) (nat_lit 11) rfl)) (fun x2 => x2 (nbq (nat_lit 24) (nat_lit 12) rfl)) (fun x2 x3 _ x5 => x5 (nbq (nat_lit 24) (nat_lit 13) rfl)) (fun x2 => x2 (nbq (nat_lit 24) (nat_lit 14) rfl)) (fun x2 _ x4 => x4 (nbq (nat_lit 24) (nat_lit 15) rfl)) (fun x2 _ x4 => x4 (nbq (nat_lit 24) (nat_lit 16) rfl)) PUnit.unit (fun x2 _ _ _ => PUnit.unit) x0 (fun _ => @Option.none _))
noncomputable def FeqScalar_9 : (AVal → (Option Bool)) :=
  (fun x0 => @AVal.rec.{1} (fun x1 => (((Nat.hasNotBit (nat_lit 128) (AVal.ctorIdx x1)) → (Option Bool)) → (Option Bool))) (fun _ => PUnit) (fun x1 x2 => x2 (nbq (nat_lit 128) (nat_lit 0) rfl)) (fun x1 x2 x3 => x3 (nbq (nat_lit 128) (nat_lit 1) rfl)) (fun x1 x2 => x2 (nbq (nat_lit 128) (nat_lit 2) rfl)) (fun x1 x2 x3 => x3 (nbq (nat_lit 128) (nat_lit 3) rfl)) (fun x1 => x1 (nbq (nat_lit 128) (nat_lit 4) rfl)) (fun x1 x2 x3 x4 x5 => x5 (nbq (nat_lit 128) (nat_lit 5) rfl)) (fun x1 x2 x3 x4 x5 => x5 (nbq (nat_lit 128) (nat_lit 6) rfl)) (fun _ => @Option.some _ Bool.false) (fun x1 x2 => x2 (nbq (nat_lit 128) (nat_lit 8) rfl)) (fun x1 => x1 (nbq (nat_lit 128) (nat_lit 9) rfl)) (fun x1 x2 x3 _ _ x6 => x6 (nbq (nat_lit 128) (nat_lit 10) rfl)) (fun x1 x2 => x2 (nbq (nat_lit 128) (nat_lit 11) rfl)) (fun x1 => x1 (nbq (nat_lit 128) (nat_lit 12) rfl)) (fun x1 x2 _ x4 => x4 (nbq (nat_lit 128) (nat_lit 13) rfl)) (fun x1 => x1 (nbq (nat_lit 128) (nat_lit 14) rfl)) (fun x1 _ x3 => x3 (nbq (nat_lit 128) (nat_lit 15) rfl)) (fun x1 _ x3 => x3 (nbq (nat_lit 128) (nat_lit 16) rfl)) PUnit.unit (fun x1 _ _ _ => PUnit.unit) x0 (fun _ => @Option.none _))
noncomputable def FeqScalar_10 : (AVal → (Option Bool)) :=
  (fun x0 => @AVal.rec.{1} (fun x1 => (((Nat.hasNotBit (nat_lit 224) (AVal.ctorIdx x1)) → (Option Bool)) → (Option Bool))) (fun _ => PUnit) (fun x1 x2 => x2 (nbq (nat_lit 224) (nat_lit 0) rfl)) (fun x1 x2 x3 => x3 (nbq (nat_lit 224) (nat_lit 1) rfl)) (fun x1 x2 => x2 (nbq (nat_lit 224) (nat_lit 2) rfl)) (fun x1 x2 x3 => x3 (nbq (nat_lit 224) (nat_lit 3) rfl)) (fun x1 => x1 (nbq (nat_lit 224) (nat_lit 4) rfl)) (fun x1 x2 x3 x4 _ => @Option.some _ Bool.false) (fun x1 x2 x3 x4 _ => @Option.some _ Bool.false) (fun _ => @Option.some _ Bool.true) (fun x1 x2 => x2 (nbq (nat_lit 224) (nat_lit 8) rfl)) (fun x1 => x1 (nbq (nat_lit 224) (nat_lit 9) rfl)) (fun x1 x2 x3 _ _ x6 => x6 (nbq (nat_lit 224) (nat_lit 10) rfl)) (fun x1 x2 => x2 (nbq (nat_lit 224) (nat_lit 11) rfl)) (fun x1 => x1 (nbq (nat_lit 224) (nat_lit 12) rfl)) (fun x1 x2 _ x4 => x4 (nbq (nat_lit 224) (nat_lit 13) rfl)) (fun x1 => x1 (nbq (nat_lit 224) (nat_lit 14) rfl)) (fun x1 _ x3 => x3 (nbq (nat_lit 224) (nat_lit 15) rfl)) (fun x1 _ x3 => x3 (nbq (nat_lit 224) (nat_lit 16) rfl)) PUnit.unit (fun x1 _ _ _ => PUnit.unit) x0 (fun _ => @Option.none _))
noncomputable def FeqScalar_11 : (AVal → (AVal → (Option Bool))) :=
  (fun x0 x1 => @AVal.rec.{1} (fun x2 => (((Nat.hasNotBit (nat_lit 224) (AVal.ctorIdx x2)) → (Option Bool)) → (Option Bool))) (fun _ => PUnit) (fun x2 x3 => x3 (nbq (nat_lit 224) (nat_lit 0) rfl)) (fun x2 x3 x4 => x4 (nbq (nat_lit 224) (nat_lit 1) rfl)) (fun x2 x3 => x3 (nbq (nat_lit 224) (nat_lit 2) rfl)) (fun x2 x3 x4 => x4 (nbq (nat_lit 224) (nat_lit 3) rfl)) (fun x2 => x2 (nbq (nat_lit 224) (nat_lit 4) rfl)) (fun x2 x3 x4 x5 _ => FeqScalar_9 x1) (fun x2 x3 x4 x5 _ => FeqScalar_9 x1) (fun _ => FeqScalar_10 x1) (fun x2 x3 => x3 (nbq (nat_lit 224) (nat_lit 8) rfl)) (fun x2 => x2 (nbq (nat_lit 224) (nat_lit 9) rfl)) (fun x2 x3 x4 _ _ x7 => x7 (nbq (nat_lit 224) (nat_lit 10) rfl)) (fun x2 x3 => x3 (nbq (nat_lit 224) (nat_lit 11) rfl)) (fun x2 => x2 (nbq (nat_lit 224) (nat_lit 12) rfl)) (fun x2 x3 _ x5 => x5 (nbq (nat_lit 224) (nat_lit 13) rfl)) (fun x2 => x2 (nbq (nat_lit 224) (nat_lit 14) rfl)) (fun x2 _ x4 => x4 (nbq (nat_lit 224) (nat_lit 15) rfl)) (fun x2 _ x4 => x4 (nbq (nat_lit 224) (nat_lit 16) rfl)) PUnit.unit (fun x2 _ _ _ => PUnit.unit) x0 (fun _ => @Option.none _))
noncomputable def FeqScalar_12 : (AVal → (Option Bool)) :=
  (fun x0 => @AVal.rec.{1} (fun x1 => (((Nat.hasNotBit (nat_lit 512) (AVal.ctorIdx x1)) → (Option Bool)) → (Option Bool))) (fun _ => PUnit) (fun x1 x2 => x2 (nbq (nat_lit 512) (nat_lit 0) rfl)) (fun x1 x2 x3 => x3 (nbq (nat_lit 512) (nat_lit 1) rfl)) (fun x1 x2 => x2 (nbq (nat_lit 512) (nat_lit 2) rfl)) (fun x1 x2 x3 => x3 (nbq (nat_lit 512) (nat_lit 3) rfl)) (fun x1 => x1 (nbq (nat_lit 512) (nat_lit 4) rfl)) (fun x1 x2 x3 x4 x5 => x5 (nbq (nat_lit 512) (nat_lit 5) rfl)) (fun x1 x2 x3 x4 x5 => x5 (nbq (nat_lit 512) (nat_lit 6) rfl)) (fun x1 => x1 (nbq (nat_lit 512) (nat_lit 7) rfl)) (fun x1 x2 => x2 (nbq (nat_lit 512) (nat_lit 8) rfl)) (fun _ => @Option.some _ Bool.false) (fun x1 x2 x3 _ _ x6 => x6 (nbq (nat_lit 512) (nat_lit 10) rfl)) (fun x1 x2 => x2 (nbq (nat_lit 512) (nat_lit 11) rfl)) (fun x1 => x1 (nbq (nat_lit 512) (nat_lit 12) rfl)) (fun x1 x2 _ x4 => x4 (nbq (nat_lit 512) (nat_lit 13) rfl)) (fun x1 => x1 (nbq (nat_lit 512) (nat_lit 14) rfl)) (fun x1 _ x3 => x3 (nbq (nat_lit 512) (nat_lit 15) rfl)) (fun x1 _ x3 => x3 (nbq (nat_lit 512) (nat_lit 16) rfl)) PUnit.unit (fun x1 _ _ _ => PUnit.unit) x0 (fun _ => @Option.none _))
noncomputable def FeqScalar_13 : (AVal → (Option Bool)) :=
  (fun x0 => @AVal.rec.{1} (fun x1 => (((Nat.hasNotBit (nat_lit 768) (AVal.ctorIdx x1)) → (Option Bool)) → (Option Bool))) (fun _ => PUnit) (fun x1 x2 => x2 (nbq (nat_lit 768) (nat_lit 0) rfl)) (fun x1 x2 x3 => x3 (nbq (nat_lit 768) (nat_lit 1) rfl)) (fun x1 x2 => x2 (nbq (nat_lit 768) (nat_lit 2) rfl)) (fun x1 x2 x3 => x3 (nbq (nat_lit 768) (nat_lit 3) rfl)) (fun x1 => x1 (nbq (nat_lit 768) (nat_lit 4) rfl)) (fun x1 x2 x3 x4 x5 => x5 (nbq (nat_lit 768) (nat_lit 5) rfl)) (fun x1 x2 x3 x4 x5 => x5 (nbq (nat_lit 768) (nat_lit 6) rfl)) (fun x1 => x1 (nbq (nat_lit 768) (nat_lit 7) rfl)) (fun x1 _ => @Option.some _ Bool.false) (fun _ => @Option.some _ Bool.true) (fun x1 x2 x3 _ _ x6 => x6 (nbq (nat_lit 768) (nat_lit 10) rfl)) (fun x1 x2 => x2 (nbq (nat_lit 768) (nat_lit 11) rfl)) (fun x1 => x1 (nbq (nat_lit 768) (nat_lit 12) rfl)) (fun x1 x2 _ x4 => x4 (nbq (nat_lit 768) (nat_lit 13) rfl)) (fun x1 => x1 (nbq (nat_lit 768) (nat_lit 14) rfl)) (fun x1 _ x3 => x3 (nbq (nat_lit 768) (nat_lit 15) rfl)) (fun x1 _ x3 => x3 (nbq (nat_lit 768) (nat_lit 16) rfl)) PUnit.unit (fun x1 _ _ _ => PUnit.unit) x0 (fun _ => @Option.none _))
noncomputable def FeqScalar_14 : (AVal → (AVal → (Option Bool))) :=
  (fun x0 x1 => @AVal.rec.{1} (fun x2 => (((Nat.hasNotBit (nat_lit 768) (AVal.ctorIdx x2)) → (Option Bool)) → (Option Bool))) (fun _ => PUnit) (fun x2 x3 => x3 (nbq (nat_lit 768) (nat_lit 0) rfl)) (fun x2 x3 x4 => x4 (nbq (nat_lit 768) (nat_lit 1) rfl)) (fun x2 x3 => x3 (nbq (nat_lit 768) (nat_lit 2) rfl)) (fun x2 x3 x4 => x4 (nbq (nat_lit 768) (nat_lit 3) rfl)) (fun x2 => x2 (nbq (nat_lit 768) (nat_lit 4) rfl)) (fun x2 x3 x4 x5 x6 => x6 (nbq (nat_lit 768) (nat_lit 5) rfl)) (fun x2 x3 x4 x5 x6 => x6 (nbq (nat_lit 768) (nat_lit 6) rfl)) (fun x2 => x2 (nbq (nat_lit 768) (nat_lit 7) rfl)) (fun x2 _ => FeqScalar_12 x1) (fun _ => FeqScalar_13 x1) (fun x2 x3 x4 _ _ x7 => x7 (nbq (nat_lit 768) (nat_lit 10) rfl)) (fun x2 x3 => x3 (nbq (nat_lit 768) (nat_lit 11) rfl)) (fun x2 => x2 (nbq (nat_lit 768) (nat_lit 12) rfl)) (fun x2 x3 _ x5 => x5 (nbq (nat_lit 768) (nat_lit 13) rfl)) (fun x2 => x2 (nbq (nat_lit 768) (nat_lit 14) rfl)) (fun x2 _ x4 => x4 (nbq (nat_lit 768) (nat_lit 15) rfl)) (fun x2 _ x4 => x4 (nbq (nat_lit 768) (nat_lit 16) rfl)) PUnit.unit (fun x2 _ _ _ => PUnit.unit) x0 (fun _ => @Option.none _))
noncomputable def FeqScalar_15 : (AVal → (Option Bool)) :=
  (fun x0 => @AVal.rec.{1} (fun x1 => (((Nat.hasNotBit (nat_lit 4096) (AVal.ctorIdx x1)) → (Option Bool)) → (Option Bool))) (fun _ => PUnit) (fun x1 x2 => x2 (nbq (nat_lit 4096) (nat_lit 0) rfl)) (fun x1 x2 x3 => x3 (nbq (nat_lit 4096) (nat_lit 1) rfl)) (fun x1 x2 => x2 (nbq (nat_lit 4096) (nat_lit 2) rfl)) (fun x1 x2 x3 => x3 (nbq (nat_lit 4096) (nat_lit 3) rfl)) (fun x1 => x1 (nbq (nat_lit 4096) (nat_lit 4) rfl)) (fun x1 x2 x3 x4 x5 => x5 (nbq (nat_lit 4096) (nat_lit 5) rfl)) (fun x1 x2 x3 x4 x5 => x5 (nbq (nat_lit 4096) (nat_lit 6) rfl)) (fun x1 => x1 (nbq (nat_lit 4096) (nat_lit 7) rfl)) (fun x1 x2 => x2 (nbq (nat_lit 4096) (nat_lit 8) rfl)) (fun x1 => x1 (nbq (nat_lit 4096) (nat_lit 9) rfl)) (fun x1 x2 x3 _ _ x6 => x6 (nbq (nat_lit 4096) (nat_lit 10) rfl)) (fun x1 x2 => x2 (nbq (nat_lit 4096) (nat_lit 11) rfl)) (fun _ => @Option.some _ Bool.false) (fun x1 x2 _ x4 => x4 (nbq (nat_lit 4096) (nat_lit 13) rfl)) (fun x1 => x1 (nbq (nat_lit 4096) (nat_lit 14) rfl)) (fun x1 _ x3 => x3 (nbq (nat_lit 4096) (nat_lit 15) rfl)) (fun x1 _ x3 => x3 (nbq (nat_lit 4096) (nat_lit 16) rfl)) PUnit.unit (fun x1 _ _ _ => PUnit.unit) x0 (fun _ => @Option.none _))
noncomputable def FeqScalar_16 : (AVal → (Option Bool)) :=
  (fun x0 => @AVal.rec.{1} (fun x1 => (((Nat.hasNotBit (nat_lit 5120) (AVal.ctorIdx x1)) → (Option Bool)) → (Option Bool))) (fun _ => PUnit) (fun x1 x2 => x2 (nbq (nat_lit 5120) (nat_lit 0) rfl)) (fun x1 x2 x3 => x3 (nbq (nat_lit 5120) (nat_lit 1) rfl)) (fun x1 x2 => x2 (nbq (nat_lit 5120) (nat_lit 2) rfl)) (fun x1 x2 x3 => x3 (nbq (nat_lit 5120) (nat_lit 3) rfl)) (fun x1 => x1 (nbq (nat_lit 5120) (nat_lit 4) rfl)) (fun x1 x2 x3 x4 x5 => x5 (nbq (nat_lit 5120) (nat_lit 5) rfl)) (fun x1 x2 x3 x4 x5 => x5 (nbq (nat_lit 5120) (nat_lit 6) rfl)) (fun x1 => x1 (nbq (nat_lit 5120) (nat_lit 7) rfl)) (fun x1 x2 => x2 (nbq (nat_lit 5120) (nat_lit 8) rfl)) (fun x1 => x1 (nbq (nat_lit 5120) (nat_lit 9) rfl)) (fun x1 x2 x3 _ _ _ => @Option.some _ Bool.false) (fun x1 x2 => x2 (nbq (nat_lit 5120) (nat_lit 11) rfl)) (fun _ => @Option.some _ Bool.true) (fun x1 x2 _ x4 => x4 (nbq (nat_lit 5120) (nat_lit 13) rfl)) (fun x1 => x1 (nbq (nat_lit 5120) (nat_lit 14) rfl)) (fun x1 _ x3 => x3 (nbq (nat_lit 5120) (nat_lit 15) rfl)) (fun x1 _ x3 => x3 (nbq (nat_lit 5120) (nat_lit 16) rfl)) PUnit.unit (fun x1 _ _ _ => PUnit.unit) x0 (fun _ => @Option.none _))
noncomputable def FeqScalar_17 : (AVal → (AVal → (Option Bool))) :=
  (fun x0 x1 => @AVal.rec.{1} (fun x2 => (((Nat.hasNotBit (nat_lit 5120) (AVal.ctorIdx x2)) → (Option Bool)) → (Option Bool))) (fun _ => PUnit) (fun x2 x3 => x3 (nbq (nat_lit 5120) (nat_lit 0) rfl)) (fun x2 x3 x4 => x4 (nbq (nat_lit 5120) (nat_lit 1) rfl)) (fun x2 x3 => x3 (nbq (nat_lit 5120) (nat_lit 2) rfl)) (fun x2 x3 x4 => x4 (nbq (nat_lit 5120) (nat_lit 3) rfl)) (fun x2 => x2 (nbq (nat_lit 5120) (nat_lit 4) rfl)) (fun x2 x3 x4 x5 x6 => x6 (nbq (nat_lit 5120) (nat_lit 5) rfl)) (fun x2 x3 x4 x5 x6 => x6 (nbq (nat_lit 5120) (nat_lit 6) rfl)) (fun x2 => x2 (nbq (nat_lit 5120) (nat_lit 7) rfl)) (fun x2 x3 => x3 (nbq (nat_lit 5120) (nat_lit 8) rfl)) (fun x2 => x2 (nbq (nat_lit 5120) (nat_lit 9) rfl)) (fun x2 x3 x4 _ _ _ => FeqScalar_15 x1) (fun x2 x3 => x3 (nbq (nat_lit 5120) (nat_lit 11) rfl)) (fun _ => FeqScalar_16 x1) (fun x2 x3 _ x5 => x5 (nbq (nat_lit 5120) (nat_lit 13) rfl)) (fun x2 => x2 (nbq (nat_lit 5120) (nat_lit 14) rfl)) (fun x2 _ x4 => x4 (nbq (nat_lit 5120) (nat_lit 15) rfl)) (fun x2 _ x4 => x4 (nbq (nat_lit 5120) (nat_lit 16) rfl)) PUnit.unit (fun x2 _ _ _ => PUnit.unit) x0 (fun _ => @Option.none _))
noncomputable def FeqScalar_18 : (AVal → (Option Bool)) :=
  (fun x0 => @AVal.rec.{1} (fun x1 => (((Nat.hasNotBit (nat_lit 16384) (AVal.ctorIdx x1)) → (Option Bool)) → (Option Bool))) (fun _ => PUnit) (fun x1 x2 => x2 (nbq (nat_lit 16384) (nat_lit 0) rfl)) (fun x1 x2 x3 => x3 (nbq (nat_lit 16384) (nat_lit 1) rfl)) (fun x1 x2 => x2 (nbq (nat_lit 16384) (nat_lit 2) rfl)) (fun x1 x2 x3 => x3 (nbq (nat_lit 16384) (nat_lit 3) rfl)) (fun x1 => x1 (nbq (nat_lit 16384) (nat_lit 4) rfl)) (fun x1 x2 x3 x4 x5 => x5 (nbq (nat_lit 16384) (nat_lit 5) rfl)) (fun x1 x2 x3 x4 x5 => x5 (nbq (nat_lit 16384) (nat_lit 6) rfl)) (fun x1 => x1 (nbq (nat_lit 16384) (nat_lit 7) rfl)) (fun x1 x2 => x2 (nbq (nat_lit 16384) (nat_lit 8) rfl)) (fun x1 => x1 (nbq (nat_lit 16384) (nat_lit 9) rfl)) (fun x1 x2 x3 _ _ x6 => x6 (nbq (nat_lit 16384) (nat_lit 10) rfl)) (fun x1 x2 => x2 (nbq (nat_lit 16384) (nat_lit 11) rfl)) (fun x1 => x1 (nbq (nat_lit 16384) (nat_lit 12) rfl)) (fun x1 x2 _ x4 => x4 (nbq (nat_lit 16384) (nat_lit 13) rfl)) (fun _ => @Option.some _ Bool.false) (fun x1 _ x3 => x3 (nbq (nat_lit 16384) (nat_lit 15) rfl)) (fun x1 _ x3 => x3 (nbq (nat_lit 16384) (nat_lit 16) rfl)) PUnit.unit (fun x1 _ _ _ => PUnit.unit) x0 (fun _ => @Option.none _))
noncomputable def FeqScalar_19 : (AVal → (Option Bool)) :=
  (fun x0 => @AVal.rec.{1} (fun x1 => (((Nat.hasNotBit (nat_lit 24576) (AVal.ctorIdx x1)) → (Option Bool)) → (Option Bool))) (fun _ => PUnit) (fun x1 x2 => x2 (nbq (nat_lit 24576) (nat_lit 0) rfl)) (fun x1 x2 x3 => x3 (nbq (nat_lit 24576) (nat_lit 1) rfl)) (fun x1 x2 => x2 (nbq (nat_lit 24576) (nat_lit 2) rfl)) (fun x1 x2 x3 => x3 (nbq (nat_lit 24576) (nat_lit 3) rfl)) (fun x1 => x1 (nbq (nat_lit 24576) (nat_lit 4) rfl)) (fun x1 x2 x3 x4 x5 => x5 (nbq (nat_lit 24576) (nat_lit 5) rfl)) (fun x1 x2 x3 x4 x5 => x5 (nbq (nat_lit 24576) (nat_lit 6) rfl)) (fun x1 => x1 (nbq (nat_lit 24576) (nat_lit 7) rfl)) (fun x1 x2 => x2 (nbq (nat_lit 24576) (nat_lit 8) rfl)) (fun x1 => x1 (nbq (nat_lit 24576) (nat_lit 9) rfl)) (fun x1 x2 x3 _ _ x6 => x6 (nbq (nat_lit 24576) (nat_lit 10) rfl)) (fun x1 x2 => x2 (nbq (nat_lit 24576) (nat_lit 11) rfl)) (fun x1 => x1 (nbq (nat_lit 24576) (nat_lit 12) rfl)) (fun x1 x2 _ _ => @Option.some _ Bool.false) (fun _ => @Option.some _ Bool.true) (fun x1 _ x3 => x3 (nbq (nat_lit 24576) (nat_lit 15) rfl)) (fun x1 _ x3 => x3 (nbq (nat_lit 24576) (nat_lit 16) rfl)) PUnit.unit (fun x1 _ _ _ => PUnit.unit) x0 (fun _ => @Option.none _))
noncomputable def FeqScalar_20 : (AVal → (AVal → (Option Bool))) :=
  (fun x0 x1 => @AVal.rec.{1} (fun x2 => (((Nat.hasNotBit (nat_lit 24576) (AVal.ctorIdx x2)) → (Option Bool)) → (Option Bool))) (fun _ => PUnit) (fun x2 x3 => x3 (nbq (nat_lit 24576) (nat_lit 0) rfl)) (fun x2 x3 x4 => x4 (nbq (nat_lit 24576) (nat_lit 1) rfl)) (fun x2 x3 => x3 (nbq (nat_lit 24576) (nat_lit 2) rfl)) (fun x2 x3 x4 => x4 (nbq (nat_lit 24576) (nat_lit 3) rfl)) (fun x2 => x2 (nbq (nat_lit 24576) (nat_lit 4) rfl)) (fun x2 x3 x4 x5 x6 => x6 (nbq (nat_lit 24576) (nat_lit 5) rfl)) (fun x2 x3 x4 x5 x6 => x6 (nbq (nat_lit 24576) (nat_lit 6) rfl)) (fun x2 => x2 (nbq (nat_lit 24576) (nat_lit 7) rfl)) (fun x2 x3 => x3 (nbq (nat_lit 24576) (nat_lit 8) rfl)) (fun x2 => x2 (nbq (nat_lit 24576) (nat_lit 9) rfl)) (fun x2 x3 x4 _ _ x7 => x7 (nbq (nat_lit 24576) (nat_lit 10) rfl)) (fun x2 x3 => x3 (nbq (nat_lit 24576) (nat_lit 11) rfl)) (fun x2 => x2 (nbq (nat_lit 24576) (nat_lit 12) rfl)) (fun x2 x3 _ _ => FeqScalar_18 x1) (fun _ => FeqScalar_19 x1) (fun x2 _ x4 => x4 (nbq (nat_lit 24576) (nat_lit 15) rfl)) (fun x2 _ x4 => x4 (nbq (nat_lit 24576) (nat_lit 16) rfl)) PUnit.unit (fun x2 _ _ _ => PUnit.unit) x0 (fun _ => @Option.none _))
noncomputable def FeqScalar : (Go.TypeDesc → (AVal → (AVal → (Option Bool)))) :=
  (fun x0 x1 x2 => @Go.TypeDesc.rec.{1} (fun _ => (AVal → (AVal → (Option Bool)))) (fun _ _ => @Option.none _) (fun x3 x4 => FeqScalar_1 x3 x4) (fun _ x4 x5 => FeqScalar_3 x4 x5) (fun _ _ _ => @Option.none _) (fun _ _ _ => @Option.none _) (fun x3 x4 => FeqScalar_5 x3 x4) (fun _ _ => @Option.none _) (fun _ x4 x5 => FeqScalar_8 x4 x5) (fun _ x4 x5 => FeqScalar_11 x4 x5) (fun _ _ _ _ => @Option.none _) (fun _ _ x5 x6 => FeqScalar_14 x5 x6) (fun _ _ _ _ => @Option.none _) (fun _ _ _ => @Option.none _) (fun _ _ _ x6 x7 => FeqScalar_17 x6 x7) (fun _ x4 x5 => FeqScalar_20 x4 x5) (fun _ _ _ => @Option.none _) (fun _ _ _ _ => @Option.none _) x0 x1 x2)
theorem FeqScalar_eq : @FeqScalar = @Go.Abs.eqScalar := by
  delta FeqScalar
  delta FeqScalar_20
  delta FeqScalar_19
  delta FeqScalar_18
  delta FeqScalar_17
  delta FeqScalar_16
  delta FeqScalar_15
  delta FeqScalar_14
  delta FeqScalar_13
  delta FeqScalar_12
  delta FeqScalar_11
  delta FeqScalar_10
  delta FeqScalar_9
  delta FeqScalar_8
  delta FeqScalar_7
  delta FeqScalar_6
  delta FeqScalar_5
  delta FeqScalar_4
  delta FeqScalar_3
  delta FeqScalar_2
  delta FeqScalar_1
  delta FeqScalar_0
  rw [FbeqBool_eq, FbeqInt_eq, FbeqKind_eq, FbeqStr_eq]; funext p0 p1 p2; cases p0 <;> kernel_rfl
noncomputable def FeqPlain_0 : (AProg → ((List (PTree AObj)) → (Heap → (AVal → (Go.TypeId → (Pos → (Nat → (Option Bool)))))))) :=
  (fun x0 x1 x2 x3 x4 x5 x6 => @AVal.rec.{1} (fun x7 => (((Nat.hasNotBit (nat_lit 8) (AVal.ctorIdx x7)) → (Option Bool)) → (Option Bool))) (fun _ => PUnit) (fun x7 x8 => x8 (nbq (nat_lit 8) (nat_lit 0) rfl)) (fun x7 x8 x9 => x9 (nbq (nat_lit 8) (nat_lit 1) rfl)) (fun x7 x8 => x8 (nbq (nat_lit 8) (nat_lit 2) rfl)) (fun x7 x8 _ => FeqPtr x0 x1 x2 x4 x5 x6 x7 x8) (fun x7 => x7 (nbq (nat_lit 8) (nat_lit 4) rfl)) (fun x7 x8 x9 x10 x11 => x11 (nbq (nat_lit 8) (nat_lit 5) rfl)) (fun x7 x8 x9 x10 x11 => x11 (nbq (nat_lit 8) (nat_lit 6) rfl)) (fun x7 => x7 (nbq (nat_lit 8) (nat_lit 7) rfl)) (fun x7 x8 => x8 (nbq (nat_lit 8) (nat_lit 8) rfl)) (fun x7 => x7 (nbq (nat_lit 8) (nat_lit 9) rfl)) (fun x7 x8 x9 _ _ x12 => x12 (nbq (nat_lit 8) (nat_lit 10) rfl)) (fun x7 x8 => x8 (nbq (nat_lit 8) (nat_lit 11) rfl)) (fun x7 => x7 (nbq (nat_lit 8) (nat_lit 12) rfl)) (fun x7 x8 _ x10 => x10 (nbq (nat_lit 8) (nat_lit 13) rfl)) (fun x7 => x7 (nbq (nat_lit 8) (nat_lit 14) rfl)) (fun x7 _ x9 => x9 (nbq (nat_lit 8) (nat_lit 15) rfl)) (fun x7 _ x9 => x9 (nbq (nat_lit 8) (nat_lit 16) rfl)) PUnit.unit (fun x7 _ _ _ => PUnit.unit) x3 (fun _ => FeqScalar (Go.TypeDesc.pointer x4) (AVal.ptr x5 x6) x3))
noncomputable def FeqPlain_1 : (AProg → ((List (PTree AObj)) → (Heap → (AVal → (AVal → (Go.TypeId → (Option Bool))))))) :=
  (fun x0 x1 x2 x3 x4 x5 => @AVal.rec.{1} (fun x6 => (((Nat.hasNotBit (nat_lit 8) (AVal.ctorIdx x6)) → (Option Bool)) → (Option Bool))) (fun _ => PUnit) (fun x6 x7 => x7 (nbq (nat_lit 8) (nat_lit 0) rfl)) (fun x6 x7 x8 => x8 (nbq (nat_lit 8) (nat_lit 1) rfl)) (fun x6 x7 => x7 (nbq (nat_lit 8) (nat_lit 2) rfl)) (fun x6 x7 _ => FeqPlain_0 x0 x1 x2 x4 x5 x6 x7) (fun x6 => x6 (nbq (nat_lit 8) (nat_lit 4) rfl)) (fun x6 x7 x8 x9 x10 => x10 (nbq (nat_lit 8) (nat_lit 5) rfl)) (fun x6 x7 x8 x9 x10 => x10 (nbq (nat_lit 8) (nat_lit 6) rfl)) (fun x6 => x6 (nbq (nat_lit 8) (nat_lit 7) rfl)) (fun x6 x7 => x7 (nbq (nat_lit 8) (nat_lit 8) rfl)) (fun x6 => x6 (nbq (nat_lit 8) (nat_lit 9) rfl)) (fun x6 x7 x8 _ _ x11 => x11 (nbq (nat_lit 8) (nat_lit 10) rfl)) (fun x6 x7 => x7 (nbq (nat_lit 8) (nat_lit 11) rfl)) (fun x6 => x6 (nbq (nat_lit 8) (nat_lit 12) rfl)) (fun x6 x7 _ x9 => x9 (nbq (nat_lit 8) (nat_lit 13) rfl)) (fun x6 => x6 (nbq (nat_lit 8) (nat_lit 14) rfl)) (fun x6 _ x8 => x8 (nbq (nat_lit 8) (nat_lit 15) rfl)) (fun x6 _ x8 => x8 (nbq (nat_lit 8) (nat_lit 16) rfl)) PUnit.unit (fun x6 _ _ _ => PUnit.unit) x3 (fun _ => FeqScalar (Go.TypeDesc.pointer x5) x3 x4))
noncomputable def FeqPlain_2 : (AProg → ((List (PTree AObj)) → (Heap → (AVal → (AVal → (Go.TypeDesc → (Option Bool))))))) :=
  (fun x0 x1 x2 x3 x4 x5 => @Go.TypeDesc.rec.{1} (fun x6 => (((Nat.hasNotBit (nat_lit 128) (Go.TypeDesc.ctorIdx x6)) → (Option Bool)) → (Option Bool))) (fun x6 => x6 (nbq (nat_lit 128) (nat_lit 0) rfl)) (fun x6 => x6 (nbq (nat_lit 128) (nat_lit 1) rfl)) (fun x6 x7 => x7 (nbq (nat_lit 128) (nat_lit 2) rfl)) (fun x6 x7 => x7 (nbq (nat_lit 128) (nat_lit 3) rfl)) (fun x6 x7 => x7 (nbq (nat_lit 128) (nat_lit 4) rfl)) (fun x6 => x6 (nbq (nat_lit 128) (nat_lit 5) rfl)) (fun x6 => x6 (nbq (nat_lit 128) (nat_lit 6) rfl)) (fun x6 _ => FeqPlain_1 x0 x1 x2 x3 x4 x6) (fun x6 x7 => x7 (nbq (nat_lit 128) (nat_lit 8) rfl)) (fun x6 x7 x8 => x8 (nbq (nat_lit 128) (nat_lit 9) rfl)) (fun x6 x7 x8 => x8 (nbq (nat_lit 128) (nat_lit 10) rfl)) (fun x6 x7 x8 => x8 (nbq (nat_lit 128) (nat_lit 11) rfl)) (fun x6 x7 => x7 (nbq (nat_lit 128) (nat_lit 12) rfl)) (fun x6 x7 x8 x9 => x9 (nbq (nat_lit 128) (nat_lit 13) rfl)) (fun x6 x7 => x7 (nbq (nat_lit 128) (nat_lit 14) rfl)) (fun x6 x7 => x7 (nbq (nat_lit 128) (nat_lit 15) rfl)) (fun x6 x7 x8 => x8 (nbq (nat_lit 128) (nat_lit 16) rfl)) x5 (fun _ => FeqScalar x5 x3 x4))
noncomputable def FeqPlain : (AProg → ((List (PTree AObj)) → (Heap → (Go.TypeId → (AVal → (AVal → (Option Bool))))))) :=
  (fun x0 x1 x2 x3 x4 x5 => @Option.rec.{1, 0} _ (fun _ => Option Bool) (@Option.none _) (fun x6 => FeqPlain_2 x0 x1 x2 x4 x5 x6) (Fund x0 x3))
theorem FeqPlain_eq : @FeqPlain = @Go.Abs.eqPlain := by
  delta FeqPlain
  delta FeqPlain_2
  delta FeqPlain_1
  delta FeqPlain_0
  rw [FeqPtr_eq, FeqScalar_eq, Fund_eq]; kernel_rfl
noncomputable def FguardFree_gFs : ((Go.TypeId → Bool) → ((List Go.Field) → Bool)) :=
  (fun x0 x1 => @List.rec.{1, 0} _ (fun _ => Bool) Bool.true (fun x2 _ x4 => @Bool.rec.{1} (fun _ => Bool) Bool.false x4 (x0 (Go.Field.type x2))) x1)
theorem FguardFree_gFs_eq : @FguardFree_gFs = @Go.Abs.guardFree.gFs := by
  funext p0 p1
  refine @List.rec _ (fun x => @FguardFree_gFs p0 x = @Go.Abs.guardFree.gFs p0 x) ?_ ?_ p1
  · skip
    refine Eq.trans (show (@FguardFree_gFs p0 (@List.nil _)) = Bool.true by kernel_rfl) ?_
    kernel_rfl
  · intro f0 f1 h0
    refine Eq.trans (show (@FguardFree_gFs p0 (@List.cons _ f0 f1)) = (@Bool.rec.{1} (fun _ => Bool) Bool.false (@FguardFree_gFs p0 f1) (p0 (Go.Field.type f0))) by kernel_rfl) ?_
    generalize (@FguardFree_gFs p0 f1) = r0 at h0 ⊢
    subst h0
    kernel_rfl
noncomputable def FguardFree_0 : ((Go.TypeId → Bool) → (Go.TypeDesc → Bool)) :=
  (fun x0 x1 => @Go.TypeDesc.rec.{1} (fun x2 => (((Nat.hasNotBit (nat_lit 20992) (Go.TypeDesc.ctorIdx x2)) → Bool) → Bool)) (fun x2 => x2 (nbq (nat_lit 20992) (nat_lit 0) rfl)) (fun x2 => x2 (nbq (nat_lit 20992) (nat_lit 1) rfl)) (fun x2 x3 => x3 (nbq (nat_lit 20992) (nat_lit 2) rfl)) (fun x2 x3 => x3 (nbq (nat_lit 20992) (nat_lit 3) rfl)) (fun x2 x3 => x3 (nbq (nat_lit 20992) (nat_lit 4) rfl)) (fun x2 => x2 (nbq (nat_lit 20992) (nat_lit 5) rfl)) (fun x2 => x2 (nbq (nat_lit 20992) (nat_lit 6) rfl)) (fun x2 x3 => x3 (nbq (nat_lit 20992) (nat_lit 7) rfl)) (fun x2 x3 => x3 (nbq (nat_lit 20992) (nat_lit 8) rfl)) (fun x2 x3 _ => x0 x3) (fun x2 x3 x4 => x4 (nbq (nat_lit 20992) (nat_lit 10) rfl)) (fun x2 x3 x4 => x4 (nbq (nat_lit 20992) (nat_lit 11) rfl)) (fun x2 _ => FguardFree_gFs x0 (@Array.toList Go.Field x2)) (fun x2 x3 x4 x5 => x5 (nbq (nat_lit 20992) (nat_lit 13) rfl)) (fun x2 _ => @Array.isEmpty (Prod String Go.TypeId) x2) (fun x2 x3 => x3 (nbq (nat_lit 20992) (nat_lit 15) rfl)) (fun x2 x3 x4 => x4 (nbq (nat_lit 20992) (nat_lit 16) rfl)) x1 (fun _ => Bool.true))
noncomputable def FguardFree : (AProg → (Nat → (Go.TypeId → Bool))) :=
  (fun x0 x1 => @Nat.rec.{1} (fun _ => (Go.TypeId → Bool)) (fun _ => Bool.false) (fun _ x3 x4 => @Option.rec.{1, 0} _ (fun _ => Bool) Bool.false (fun x5 => FguardFree_0 x3 x5) (Fund x0 x4)) x1)
theorem FguardFree_eq : @FguardFree = @Go.Abs.guardFree := by
  funext p0 p1
  refine @Nat.rec  (fun x => @FguardFree p0 x = @Go.Abs.guardFree p0 x) ?_ ?_ p1
  · skip
    refine Eq.trans (show (@FguardFree p0 (@Nat.zero )) = (fun _ => Bool.false) by kernel_rfl) ?_
    kernel_rfl
  · intro f0 h0
    refine Eq.trans (show (@FguardFree p0 (@Nat.succ f0)) = (fun x0 => @Option.rec.{1, 0} _ (fun _ => Bool) Bool.false (fun x1 => FguardFree_0 (@FguardFree p0 f0) x1) (Fund p0 x0)) by kernel_rfl) ?_
    delta FguardFree_0
    generalize (@FguardFree p0 f0) = r0 at h0 ⊢
    subst h0
    rw [FguardFree_gFs_eq, Fund_eq]
    kernel_rfl
noncomputable def FeqA_eqFs_0 : (Go.Field → (((List AVal) → ((List AVal) → (Option Bool))) → ((List AVal) → ((List AVal) → (Bool → (Option Bool)))))) :=
  (fun x0 x1 x2 x3 x4 => @Bool.rec.{1} (fun _ => Option Bool) (@Bool.rec.{1} (fun _ => Option Bool) (@Option.some _ Bool.false) (@Option.none _) (@Decidable.decide (@Eq String (Go.Field.name x0) "_") (String.decEq (Go.Field.name x0) "_"))) (x1 x2 x3) x4)
noncomputable def FeqA_eqFs_1 : (AProg → ((Go.TypeId → (AVal → (AVal → (Option Bool)))) → (Go.Field → (((List AVal) → ((List AVal) → (Option Bool))) → ((List AVal) → ((List AVal) → (AVal → (Option Bool)))))))) :=
  (fun x0 x1 x2 x3 x4 x5 x6 => @Option.rec.{1, 0} _ (fun x7 => (((Nat.hasNotBit (nat_lit 2) (@Option.ctorIdx AVal x7)) → (Option Bool)) → (Option Bool))) (fun x7 => x7 (nbq (nat_lit 2) (nat_lit 0) rfl)) (fun x7 _ => @Option.rec.{1, 0} _ (fun _ => Option Bool) (@Option.none _) (fun x9 => FeqA_eqFs_0 x2 x3 x4 x5 x9) (x1 (Go.Field.type x2) x6 x7)) (FpartA x0 (Go.Field.type x2) x5 (Go.Field.offset x2)) (fun _ => @Option.none _))
noncomputable def FeqA_eqFs_2 : (AProg → ((Go.TypeId → (AVal → (AVal → (Option Bool)))) → (Go.Field → (((List AVal) → ((List AVal) → (Option Bool))) → ((List AVal) → ((List AVal) → (Option Bool))))))) :=
  (fun x0 x1 x2 x3 x4 x5 => @Option.rec.{1, 0} _ (fun x6 => (((Nat.hasNotBit (nat_lit 2) (@Option.ctorIdx AVal x6)) → (Option Bool)) → (Option Bool))) (fun x6 => x6 (nbq (nat_lit 2) (nat_lit 0) rfl)) (fun x6 _ => FeqA_eqFs_1 x0 x1 x2 x3 x4 x5 x6) (FpartA x0 (Go.Field.type x2) x4 (Go.Field.offset x2)) (fun _ => @Option.none _))
noncomputable def FeqA_eqFs : (AProg → ((Go.TypeId → (AVal → (AVal → (Option Bool)))) → ((List Go.Field) → ((List AVal) → ((List AVal) → (Option Bool)))))) :=
  (fun x0 x1 x2 => @List.rec.{1, 0} _ (fun _ => ((List AVal) → ((List AVal) → (Option Bool)))) (fun _ _ => @Option.some _ Bool.true) (fun x3 _ x5 x6 x7 => FeqA_eqFs_2 x0 x1 x3 x5 x6 x7) x2)
theorem FeqA_eqFs_eq : @FeqA_eqFs = @Go.Abs.eqA.eqFs := by
  funext p0 p1 p2
  refine @List.rec _ (fun x => @FeqA_eqFs p0 p1 x = @Go.Abs.eqA.eqFs p0 p1 x) ?_ ?_ p2
  · skip
    refine Eq.trans (show (@FeqA_eqFs p0 p1 (@List.nil _)) = (fun _ _ => @Option.some _ Bool.true) by kernel_rfl) ?_
    kernel_rfl
  · intro f0 f1 h0
    refine Eq.trans (show (@FeqA_eqFs p0 p1 (@List.cons _ f0 f1)) = (fun x0 x1 => FeqA_eqFs_2 p0 p1 f0 (@FeqA_eqFs p0 p1 f1) x0 x1) by kernel_rfl) ?_
    delta FeqA_eqFs_2
    delta FeqA_eqFs_1
    delta FeqA_eqFs_0
    generalize (@FeqA_eqFs p0 p1 f1) = r0 at h0 ⊢
    subst h0
    rw [FpartA_eq]
    kernel_rfl
noncomputable def FeqA_eqEs_0 : (AProg → ((Go.TypeId → (AVal → (AVal → (Option Bool)))) → (Go.TypeId → (Nat → ((Nat → ((List AVal) → ((List AVal) → (Option Bool)))) → (Nat → ((List AVal) → ((List AVal) → (AVal → (Option Bool)))))))))) :=
  (fun x0 x1 x2 x3 x4 x5 x6 x7 x8 => @Option.rec.{1, 0} _ (fun x9 => (((Nat.hasNotBit (nat_lit 2) (@Option.ctorIdx AVal x9)) → (Option Bool)) → (Option Bool))) (fun x9 => x9 (nbq (nat_lit 2) (nat_lit 0) rfl)) (fun x9 _ => @Option.rec.{1, 0} _ (fun _ => Option Bool) (@Option.none _) (fun x11 => @Bool.rec.{1} (fun _ => Option Bool) (@Option.some _ Bool.false) (x4 (Nat.add x5 x3) x6 x7) x11) (x1 x2 x8 x9)) (FpartA x0 x2 x7 x5) (fun _ => @Option.none _))
noncomputable def FeqA_eqEs_1 : (AProg → ((Go.TypeId → (AVal → (AVal → (Option Bool)))) → (Go.TypeId → (Nat → ((Nat → ((List AVal) → ((List AVal) → (Option Bool)))) → (Nat → ((List AVal) → ((List AVal) → (Option Bool))))))))) :=
  (fun x0 x1 x2 x3 x4 x5 x6 x7 => @Option.rec.{1, 0} _ (fun x8 => (((Nat.hasNotBit (nat_lit 2) (@Option.ctorIdx AVal x8)) → (Option Bool)) → (Option Bool))) (fun x8 => x8 (nbq (nat_lit 2) (nat_lit 0) rfl)) (fun x8 _ => FeqA_eqEs_0 x0 x1 x2 x3 x4 x5 x6 x7 x8) (FpartA x0 x2 x6 x5) (fun _ => @Option.none _))
noncomputable def FeqA_eqEs : (AProg → ((Go.TypeId → (AVal → (AVal → (Option Bool)))) → (Go.TypeId → (Nat → (Nat → (Nat → ((List AVal) → ((List AVal) → (Option Bool))))))))) :=
  (fun x0 x1 x2 x3 x4 => @Nat.rec.{1} (fun _ => (Nat → ((List AVal) → ((List AVal) → (Option Bool))))) (fun _ _ _ => @Option.some _ Bool.true) (fun _ x6 x7 x8 x9 => FeqA_eqEs_1 x0 x1 x2 x3 x6 x7 x8 x9) x4)
theorem FeqA_eqEs_eq : @FeqA_eqEs = @Go.Abs.eqA.eqEs := by
  funext p0 p1 p2 p3 p4
  refine @Nat.rec  (fun x => @FeqA_eqEs p0 p1 p2 p3 x = @Go.Abs.eqA.eqEs p0 p1 p2 p3 x) ?_ ?_ p4
  · skip
    refine Eq.trans (show (@FeqA_eqEs p0 p1 p2 p3 (@Nat.zero )) = (fun _ _ _ => @Option.some _ Bool.true) by kernel_rfl) ?_
    kernel_rfl
  · intro f0 h0
    refine Eq.trans (show (@FeqA_eqEs p0 p1 p2 p3 (@Nat.succ f0)) = (fun x0 x1 x2 => FeqA_eqEs_1 p0 p1 p2 p3 (@FeqA_eqEs p0 p1 p2 p3 f0) x0 x1 x2) by kernel_rfl) ?_
    delta FeqA_eqEs_1
    delta FeqA_eqEs_0
    generalize (@FeqA_eqEs p0 p1 p2 p3 f0) = r0 at h0 ⊢
    subst h0
    rw [FpartA_eq]
    kernel_rfl
noncomputable def FeqA_0 : (AProg → ((Go.TypeId → (AVal → (AVal → (Option Bool)))) → (Go.TypeId → ((List AVal) → ((List AVal) → (Go.TypeDesc → (Option Bool))))))) :=
  (fun x0 x1 x2 x3 x4 x5 => @Go.TypeDesc.rec.{1} (fun x6 => (((Nat.hasNotBit (nat_lit 4608) (Go.TypeDesc.ctorIdx x6)) → (Option Bool)) → (Option Bool))) (fun x6 => x6 (nbq (nat_lit 4608) (nat_lit 0) rfl)) (fun x6 => x6 (nbq (nat_lit 4608) (nat_lit 1) rfl)) (fun x6 x7 => x7 (nbq (nat_lit 4608) (nat_lit 2) rfl)) (fun x6 x7 => x7 (nbq (nat_lit 4608) (nat_lit 3) rfl)) (fun x6 x7 => x7 (nbq (nat_lit 4608) (nat_lit 4) rfl)) (fun x6 => x6 (nbq (nat_lit 4608) (nat_lit 5) rfl)) (fun x6 => x6 (nbq (nat_lit 4608) (nat_lit 6) rfl)) (fun x6 x7 => x7 (nbq (nat_lit 4608) (nat_lit 7) rfl)) (fun x6 x7 => x7 (nbq (nat_lit 4608) (nat_lit 8) rfl)) (fun x6 x7 _ => @Option.rec.{1, 0} _ (fun _ => Option Bool) (@Option.none _) (fun x9 => FeqA_eqEs x0 x1 x7 x9 x6 (nat_lit 0) x3 x4) (FsizeA x0 x7)) (fun x6 x7 x8 => x8 (nbq (nat_lit 4608) (nat_lit 10) rfl)) (fun x6 x7 x8 => x8 (nbq (nat_lit 4608) (nat_lit 11) rfl)) (fun x6 _ => @Option.rec.{1, 0} _ (fun _ => Option Bool) (@Option.none _) (fun _ => FeqA_eqFs x0 x1 (@Array.toList Go.Field x6) x3 x4) (FPTree_get Unit (FposOf x2) (AProg.plain x0))) (fun x6 x7 x8 x9 => x9 (nbq (nat_lit 4608) (nat_lit 13) rfl)) (fun x6 x7 => x7 (nbq (nat_lit 4608) (nat_lit 14) rfl)) (fun x6 x7 => x7 (nbq (nat_lit 4608) (nat_lit 15) rfl)) (fun x6 x7 x8 => x8 (nbq (nat_lit 4608) (nat_lit 16) rfl)) x5 (fun _ => @Option.none _))
noncomputable def FeqA_1 : (AProg → ((Go.TypeId → (AVal → (AVal → (Option Bool)))) → (Go.TypeId → ((List AVal) → ((List AVal) → (Option Bool)))))) :=
  (fun x0 x1 x2 x3 x4 => @Option.rec.{1, 0} _ (fun x5 => (((Nat.hasNotBit (nat_lit 2) (@Option.ctorIdx Go.TypeDesc x5)) → (Option Bool)) → (Option Bool))) (fun x5 => x5 (nbq (nat_lit 2) (nat_lit 0) rfl)) (fun x5 _ => FeqA_0 x0 x1 x2 x3 x4 x5) (Fund x0 x2) (fun _ => @Option.none _))
noncomputable def FeqA_2 : (AProg → ((List (PTree AObj)) → (Heap → ((Go.TypeId → (AVal → (AVal → (Option Bool)))) → (Go.TypeId → (AVal → ((List AVal) → (Option Bool)))))))) :=
  (fun x0 x1 x2 x3 x4 x5 x6 => @AVal.rec.{1} (fun x7 => (((Nat.hasNotBit (nat_lit 32768) (AVal.ctorIdx x7)) → (Option Bool)) → (Option Bool))) (fun _ => PUnit) (fun x7 x8 => x8 (nbq (nat_lit 32768) (nat_lit 0) rfl)) (fun x7 x8 x9 => x9 (nbq (nat_lit 32768) (nat_lit 1) rfl)) (fun x7 x8 => x8 (nbq (nat_lit 32768) (nat_lit 2) rfl)) (fun x7 x8 x9 => x9 (nbq (nat_lit 32768) (nat_lit 3) rfl)) (fun x7 => x7 (nbq (nat_lit 32768) (nat_lit 4) rfl)) (fun x7 x8 x9 x10 x11 => x11 (nbq (nat_lit 32768) (nat_lit 5) rfl)) (fun x7 x8 x9 x10 x11 => x11 (nbq (nat_lit 32768) (nat_lit 6) rfl)) (fun x7 => x7 (nbq (nat_lit 32768) (nat_lit 7) rfl)) (fun x7 x8 => x8 (nbq (nat_lit 32768) (nat_lit 8) rfl)) (fun x7 => x7 (nbq (nat_lit 32768) (nat_lit 9) rfl)) (fun x7 x8 x9 _ _ x12 => x12 (nbq (nat_lit 32768) (nat_lit 10) rfl)) (fun x7 x8 => x8 (nbq (nat_lit 32768) (nat_lit 11) rfl)) (fun x7 => x7 (nbq (nat_lit 32768) (nat_lit 12) rfl)) (fun x7 x8 _ x10 => x10 (nbq (nat_lit 32768) (nat_lit 13) rfl)) (fun x7 => x7 (nbq (nat_lit 32768) (nat_lit 14) rfl)) (fun x7 _ _ => FeqA_1 x0 x3 x4 x6 x7) (fun x7 _ x9 => x9 (nbq (nat_lit 32768) (nat_lit 16) rfl)) PUnit.unit (fun x7 _ _ _ => PUnit.unit) x5 (fun _ => FeqPlain x0 x1 x2 x4 (AVal.agg x6) x5))
noncomputable def FeqA_3 : (AProg → ((List (PTree AObj)) → (Heap → ((Go.TypeId → (AVal → (AVal → (Option Bool)))) → (Go.TypeId → (AVal → (AVal → (Option Bool)))))))) :=
  (fun x0 x1 x2 x3 x4 x5 x6 => @AVal.rec.{1} (fun x7 => (((Nat.hasNotBit (nat_lit 32768) (AVal.ctorIdx x7)) → (Option Bool)) → (Option Bool))) (fun _ => PUnit) (fun x7 x8 => x8 (nbq (nat_lit 32768) (nat_lit 0) rfl)) (fun x7 x8 x9 => x9 (nbq (nat_lit 32768) (nat_lit 1) rfl)) (fun x7 x8 => x8 (nbq (nat_lit 32768) (nat_lit 2) rfl)) (fun x7 x8 x9 => x9 (nbq (nat_lit 32768) (nat_lit 3) rfl)) (fun x7 => x7 (nbq (nat_lit 32768) (nat_lit 4) rfl)) (fun x7 x8 x9 x10 x11 => x11 (nbq (nat_lit 32768) (nat_lit 5) rfl)) (fun x7 x8 x9 x10 x11 => x11 (nbq (nat_lit 32768) (nat_lit 6) rfl)) (fun x7 => x7 (nbq (nat_lit 32768) (nat_lit 7) rfl)) (fun x7 x8 => x8 (nbq (nat_lit 32768) (nat_lit 8) rfl)) (fun x7 => x7 (nbq (nat_lit 32768) (nat_lit 9) rfl)) (fun x7 x8 x9 _ _ x12 => x12 (nbq (nat_lit 32768) (nat_lit 10) rfl)) (fun x7 x8 => x8 (nbq (nat_lit 32768) (nat_lit 11) rfl)) (fun x7 => x7 (nbq (nat_lit 32768) (nat_lit 12) rfl)) (fun x7 x8 _ x10 => x10 (nbq (nat_lit 32768) (nat_lit 13) rfl)) (fun x7 => x7 (nbq (nat_lit 32768) (nat_lit 14) rfl)) (fun x7 _ _ => FeqA_2 x0 x1 x2 x3 x4 x6 x7) (fun x7 _ x9 => x9 (nbq (nat_lit 32768) (nat_lit 16) rfl)) PUnit.unit (fun x7 _ _ _ => PUnit.unit) x5 (fun _ => FeqPlain x0 x1 x2 x4 x5 x6))
noncomputable def FeqA : (AProg → ((List (PTree AObj)) → (Heap → (Nat → (Go.TypeId → (AVal → (AVal → (Option Bool)))))))) :=
  (fun x0 x1 x2 x3 => @Nat.rec.{1} (fun _ => (Go.TypeId → (AVal → (AVal → (Option Bool))))) (fun _ _ _ => @Option.none _) (fun _ x5 x6 x7 x8 => FeqA_3 x0 x1 x2 x5 x6 x7 x8) x3)
theorem FeqA_eq : @FeqA = @Go.Abs.eqA := by
  funext p0 p1 p2 p3
  refine @Nat.rec  (fun x => @FeqA p0 p1 p2 x = @Go.Abs.eqA p0 p1 p2 x) ?_ ?_ p3
  · skip
    refine Eq.trans (show (@FeqA p0 p1 p2 (@Nat.zero )) = (fun _ _ _ => @Option.none _) by kernel_rfl) ?_
    kernel_rfl
  · intro f0 h0
    refine Eq.trans (show (@FeqA p0 p1 p2 (@Nat.succ f0)) = (fun x0 x1 x2 => FeqA_3 p0 p1 p2 (@FeqA p0 p1 p2 f0) x0 x1 x2) by kernel_rfl) ?_
    delta FeqA_3
    delta FeqA_2
    delta FeqA_1
    delta FeqA_0
    generalize (@FeqA p0 p1 p2 f0) = r0 at h0 ⊢
    subst h0
    rw [FeqA_eqEs_eq, FsizeA_eq, FeqA_eqFs_eq, FPTree_get_eq, FposOf_eq, Fund_eq, FeqPlain_eq]
    kernel_rfl
noncomputable def FeqTop_0 : (AProg → ((List (PTree AObj)) → (Heap → (Go.TypeId → (Go.Operand → (Go.Operand → (AVal → (Option Bool)))))))) :=
  (fun x0 x1 x2 x3 x4 x5 x6 => @AVal.rec.{1} (fun x7 => (((Nat.hasNotBit (nat_lit 16384) (AVal.ctorIdx x7)) → (Option Bool)) → (Option Bool))) (fun _ => PUnit) (fun x7 x8 => x8 (nbq (nat_lit 16384) (nat_lit 0) rfl)) (fun x7 x8 x9 => x9 (nbq (nat_lit 16384) (nat_lit 1) rfl)) (fun x7 x8 => x8 (nbq (nat_lit 16384) (nat_lit 2) rfl)) (fun x7 x8 x9 => x9 (nbq (nat_lit 16384) (nat_lit 3) rfl)) (fun x7 => x7 (nbq (nat_lit 16384) (nat_lit 4) rfl)) (fun x7 x8 x9 x10 x11 => x11 (nbq (nat_lit 16384) (nat_lit 5) rfl)) (fun x7 x8 x9 x10 x11 => x11 (nbq (nat_lit 16384) (nat_lit 6) rfl)) (fun x7 => x7 (nbq (nat_lit 16384) (nat_lit 7) rfl)) (fun x7 x8 => x8 (nbq (nat_lit 16384) (nat_lit 8) rfl)) (fun x7 => x7 (nbq (nat_lit 16384) (nat_lit 9) rfl)) (fun x7 x8 x9 _ _ x12 => x12 (nbq (nat_lit 16384) (nat_lit 10) rfl)) (fun x7 x8 => x8 (nbq (nat_lit 16384) (nat_lit 11) rfl)) (fun x7 => x7 (nbq (nat_lit 16384) (nat_lit 12) rfl)) (fun x7 x8 _ x10 => x10 (nbq (nat_lit 16384) (nat_lit 13) rfl)) (fun _ => @Bool.rec.{1} (fun _ => Option Bool) (@Option.none _) (FeqPlain x0 x1 x2 x3 AVal.nilIface AVal.nilIface) (Bool.or (FisConst x4) (FisConst x5))) (fun x7 _ x9 => x9 (nbq (nat_lit 16384) (nat_lit 15) rfl)) (fun x7 _ x9 => x9 (nbq (nat_lit 16384) (nat_lit 16) rfl)) PUnit.unit (fun x7 _ _ _ => PUnit.unit) x6 (fun _ => FeqPlain x0 x1 x2 x3 AVal.nilIface x6))
noncomputable def FeqTop_1 : ((List AVal) → (AProg → ((List (PTree AObj)) → (Heap → (Go.TypeId → (AVal → (Option Bool))))))) :=
  (fun x0 x1 x2 x3 x4 x5 => @AVal.rec.{1} (fun x6 => (((Nat.hasNotBit (nat_lit 32768) (AVal.ctorIdx x6)) → (Option Bool)) → (Option Bool))) (fun _ => PUnit) (fun x6 x7 => x7 (nbq (nat_lit 32768) (nat_lit 0) rfl)) (fun x6 x7 x8 => x8 (nbq (nat_lit 32768) (nat_lit 1) rfl)) (fun x6 x7 => x7 (nbq (nat_lit 32768) (nat_lit 2) rfl)) (fun x6 x7 x8 => x8 (nbq (nat_lit 32768) (nat_lit 3) rfl)) (fun x6 => x6 (nbq (nat_lit 32768) (nat_lit 4) rfl)) (fun x6 x7 x8 x9 x10 => x10 (nbq (nat_lit 32768) (nat_lit 5) rfl)) (fun x6 x7 x8 x9 x10 => x10 (nbq (nat_lit 32768) (nat_lit 6) rfl)) (fun x6 => x6 (nbq (nat_lit 32768) (nat_lit 7) rfl)) (fun x6 x7 => x7 (nbq (nat_lit 32768) (nat_lit 8) rfl)) (fun x6 => x6 (nbq (nat_lit 32768) (nat_lit 9) rfl)) (fun x6 x7 x8 _ _ x11 => x11 (nbq (nat_lit 32768) (nat_lit 10) rfl)) (fun x6 x7 => x7 (nbq (nat_lit 32768) (nat_lit 11) rfl)) (fun x6 => x6 (nbq (nat_lit 32768) (nat_lit 12) rfl)) (fun x6 x7 _ x9 => x9 (nbq (nat_lit 32768) (nat_lit 13) rfl)) (fun x6 => x6 (nbq (nat_lit 32768) (nat_lit 14) rfl)) (fun x6 _ _ => @Bool.rec.{1} (fun _ => Option Bool) (@Option.none _) (FeqA x1 x2 x3 (nat_lit 40) x4 (AVal.agg x0) (AVal.agg x6)) (FguardFree x1 (nat_lit 40) x4)) (fun x6 _ x8 => x8 (nbq (nat_lit 32768) (nat_lit 16) rfl)) PUnit.unit (fun x6 _ _ _ => PUnit.unit) x5 (fun _ => FeqPlain x1 x2 x3 x4 (AVal.agg x0) x5))
noncomputable def FeqTop : (AProg → ((List (PTree AObj)) → (Heap → (Go.TypeId → (Go.Operand → (Go.Operand → (AVal → (AVal → (Option Bool))))))))) :=
  (fun x0 x1 x2 x3 x4 x5 x6 x7 => @AVal.rec.{1} (fun _ => (AProg → ((List (PTree AObj)) → (Heap → (Go.TypeId → (Go.Operand → (Go.Operand → (AVal → (Option Bool))))))))) (fun _ => PUnit) (fun _ x9 x10 x11 x12 _ _ x15 => FeqPlain x9 x10 x11 x12 x6 x15) (fun _ _ x10 x11 x12 x13 _ _ x16 => FeqPlain x10 x11 x12 x13 x6 x16) (fun _ x9 x10 x11 x12 _ _ x15 => FeqPlain x9 x10 x11 x12 x6 x15) (fun _ _ x10 x11 x12 x13 _ _ x16 => FeqPlain x10 x11 x12 x13 x6 x16) (fun x8 x9 x10 x11 _ _ x14 => FeqPlain x8 x9 x10 x11 x6 x14) (fun _ _ _ _ x12 x13 x14 x15 _ _ x18 => FeqPlain x12 x13 x14 x15 x6 x18) (fun _ _ _ _ x12 x13 x14 x15 _ _ x18 => FeqPlain x12 x13 x14 x15 x6 x18) (fun x8 x9 x10 x11 _ _ x14 => FeqPlain x8 x9 x10 x11 x6 x14) (fun _ x9 x10 x11 x12 _ _ x15 => FeqPlain x9 x10 x11 x12 x6 x15) (fun x8 x9 x10 x11 _ _ x14 => FeqPlain x8 x9 x10 x11 x6 x14) (fun _ _ _ _ _ x13 x14 x15 x16 _ _ x19 => FeqPlain x13 x14 x15 x16 x6 x19) (fun _ x9 x10 x11 x12 _ _ x15 => FeqPlain x9 x10 x11 x12 x6 x15) (fun x8 x9 x10 x11 _ _ x14 => FeqPlain x8 x9 x10 x11 x6 x14) (fun _ x9 _ x11 x12 x13 x14 _ _ x17 => FeqPlain x11 x12 x13 x14 x6 x17) (fun x8 x9 x10 x11 x12 x13 x14 => FeqTop_0 x8 x9 x10 x11 x12 x13 x14) (fun x8 _ x10 x11 x12 x13 _ _ x16 => FeqTop_1 x8 x10 x11 x12 x13 x16) (fun _ _ x10 x11 x12 x13 _ _ x16 => FeqPlain x10 x11 x12 x13 x6 x16) PUnit.unit (fun x8 _ _ _ => PUnit.unit) x6 x0 x1 x2 x3 x4 x5 x7)
theorem FeqTop_eq : @FeqTop = @Go.Abs.eqTop := by
  delta FeqTop
  delta FeqTop_1
  delta FeqTop_0
  rw [FeqPlain_eq, FisConst_eq, FeqA_eq, FguardFree_eq]; funext p0 p1 p2 p3 p4 p5 p6 p7; cases p6 <;> kernel_rfl
noncomputable def FbinA_0 : (AVal → (AProg → ((List (PTree AObj)) → (Heap → (Go.BinOp → (Go.TypeId → (Go.Operand → (Go.Operand → (AVal → (Option AVal)))))))))) :=
  (fun x0 x1 x2 x3 x4 x5 x6 x7 x8 => @Go.BinOp.rec.{1} (fun x9 => (((Nat.hasNotBit (nat_lit 6144) (Go.BinOp.ctorIdx x9)) → (Option AVal)) → (Option AVal))) (fun x9 => x9 (nbq (nat_lit 6144) (nat_lit 0) rfl)) (fun x9 => x9 (nbq (nat_lit 6144) (nat_lit 1) rfl)) (fun x9 => x9 (nbq (nat_lit 6144) (nat_lit 2) rfl)) (fun x9 => x9 (nbq (nat_lit 6144) (nat_lit 3) rfl)) (fun x9 => x9 (nbq (nat_lit 6144) (nat_lit 4) rfl)) (fun x9 => x9 (nbq (nat_lit 6144) (nat_lit 5) rfl)) (fun x9 => x9 (nbq (nat_lit 6144) (nat_lit 6) rfl)) (fun x9 => x9 (nbq (nat_lit 6144) (nat_lit 7) rfl)) (fun x9 => x9 (nbq (nat_lit 6144) (nat_lit 8) rfl)) (fun x9 => x9 (nbq (nat_lit 6144) (nat_lit 9) rfl)) (fun x9 => x9 (nbq (nat_lit 6144) (nat_lit 10) rfl)) (fun _ => @Option.rec.{1, 0} _ (fun _ => Option AVal) (@Option.none _) (fun x10 => @Option.some _ (AVal.bool x10)) (FeqTop x1 x2 x3 x5 x6 x7 x0 x8)) (fun _ => @Option.rec.{1, 0} _ (fun _ => Option AVal) (@Option.none _) (fun x10 => @Option.some _ (AVal.bool (Bool.not x10))) (FeqTop x1 x2 x3 x5 x6 x7 x0 x8)) (fun x9 => x9 (nbq (nat_lit 6144) (nat_lit 13) rfl)) (fun x9 => x9 (nbq (nat_lit 6144) (nat_lit 14) rfl)) (fun x9 => x9 (nbq (nat_lit 6144) (nat_lit 15) rfl)) (fun x9 => x9 (nbq (nat_lit 6144) (nat_lit 16) rfl)) x4 (fun _ => @Option.none _))
noncomputable def FbinA_1 : (Go.IntKind → (Int → (AProg → ((List (PTree AObj)) → (Heap → (Go.BinOp → (Go.TypeId → (Go.Operand → (Go.Operand → (AVal → (Option AVal))))))))))) :=
  (fun x0 x1 x2 x3 x4 x5 x6 x7 x8 x9 => @AVal.rec.{1} (fun x10 => (((Nat.hasNotBit (nat_lit 2) (AVal.ctorIdx x10)) → (Option AVal)) → (Option AVal))) (fun _ => PUnit) (fun x10 x11 => x11 (nbq (nat_lit 2) (nat_lit 0) rfl)) (fun x10 x11 _ => @Bool.rec.{1} (fun _ => Option AVal) (@Bool.rec.{1} (fun _ => Option AVal) (@Option.none _) (FintOp x5 x0 x1 x11) (FbeqKind x0 x10)) (FshiftOp x5 x0 x1 x11) (FisShift x5)) (fun x10 x11 => x11 (nbq (nat_lit 2) (nat_lit 2) rfl)) (fun x10 x11 x12 => x12 (nbq (nat_lit 2) (nat_lit 3) rfl)) (fun x10 => x10 (nbq (nat_lit 2) (nat_lit 4) rfl)) (fun x10 x11 x12 x13 x14 => x14 (nbq (nat_lit 2) (nat_lit 5) rfl)) (fun x10 x11 x12 x13 x14 => x14 (nbq (nat_lit 2) (nat_lit 6) rfl)) (fun x10 => x10 (nbq (nat_lit 2) (nat_lit 7) rfl)) (fun x10 x11 => x11 (nbq (nat_lit 2) (nat_lit 8) rfl)) (fun x10 => x10 (nbq (nat_lit 2) (nat_lit 9) rfl)) (fun x10 x11 x12 _ _ x15 => x15 (nbq (nat_lit 2) (nat_lit 10) rfl)) (fun x10 x11 => x11 (nbq (nat_lit 2) (nat_lit 11) rfl)) (fun x10 => x10 (nbq (nat_lit 2) (nat_lit 12) rfl)) (fun x10 x11 _ x13 => x13 (nbq (nat_lit 2) (nat_lit 13) rfl)) (fun x10 => x10 (nbq (nat_lit 2) (nat_lit 14) rfl)) (fun x10 _ x12 => x12 (nbq (nat_lit 2) (nat_lit 15) rfl)) (fun x10 _ x12 => x12 (nbq (nat_lit 2) (nat_lit 16) rfl)) PUnit.unit (fun x10 _ _ _ => PUnit.unit) x9 (fun _ => @Go.BinOp.rec.{1} (fun x11 => (((Nat.hasNotBit (nat_lit 6144) (Go.BinOp.ctorIdx x11)) → (Option AVal)) → (Option AVal))) (fun x11 => x11 (nbq (nat_lit 6144) (nat_lit 0) rfl)) (fun x11 => x11 (nbq (nat_lit 6144) (nat_lit 1) rfl)) (fun x11 => x11 (nbq (nat_lit 6144) (nat_lit 2) rfl)) (fun x11 => x11 (nbq (nat_lit 6144) (nat_lit 3) rfl)) (fun x11 => x11 (nbq (nat_lit 6144) (nat_lit 4) rfl)) (fun x11 => x11 (nbq (nat_lit 6144) (nat_lit 5) rfl)) (fun x11 => x11 (nbq (nat_lit 6144) (nat_lit 6) rfl)) (fun x11 => x11 (nbq (nat_lit 6144) (nat_lit 7) rfl)) (fun x11 => x11 (nbq (nat_lit 6144) (nat_lit 8) rfl)) (fun x11 => x11 (nbq (nat_lit 6144) (nat_lit 9) rfl)) (fun x11 => x11 (nbq (nat_lit 6144) (nat_lit 10) rfl)) (fun _ => @Option.rec.{1, 0} _ (fun _ => Option AVal) (@Option.none _) (fun x12 => @Option.some _ (AVal.bool x12)) (FeqTop x2 x3 x4 x6 x7 x8 (AVal.int x0 x1) x9)) (fun _ => @Option.rec.{1, 0} _ (fun _ => Option AVal) (@Option.none _) (fun x12 => @Option.some _ (AVal.bool (Bool.not x12))) (FeqTop x2 x3 x4 x6 x7 x8 (AVal.int x0 x1) x9)) (fun x11 => x11 (nbq (nat_lit 6144) (nat_lit 13) rfl)) (fun x11 => x11 (nbq (nat_lit 6144) (nat_lit 14) rfl)) (fun x11 => x11 (nbq (nat_lit 6144) (nat_lit 15) rfl)) (fun x11 => x11 (nbq (nat_lit 6144) (nat_lit 16) rfl)) x5 (fun _ => @Option.none _)))
noncomputable def FbinA_2 : ((List Nat) → (AProg → ((List (PTree AObj)) → (Heap → (Go.BinOp → (Go.TypeId → (Go.Operand → (Go.Operand → (AVal → (Option AVal)))))))))) :=
  (fun x0 x1 x2 x3 x4 x5 x6 x7 x8 => @AVal.rec.{1} (fun x9 => (((Nat.hasNotBit (nat_lit 4) (AVal.ctorIdx x9)) → (Option AVal)) → (Option AVal))) (fun _ => PUnit) (fun x9 x10 => x10 (nbq (nat_lit 4) (nat_lit 0) rfl)) (fun x9 x10 x11 => x11 (nbq (nat_lit 4) (nat_lit 1) rfl)) (fun x9 _ => FstrOp x4 x0 x9) (fun x9 x10 x11 => x11 (nbq (nat_lit 4) (nat_lit 3) rfl)) (fun x9 => x9 (nbq (nat_lit 4) (nat_lit 4) rfl)) (fun x9 x10 x11 x12 x13 => x13 (nbq (nat_lit 4) (nat_lit 5) rfl)) (fun x9 x10 x11 x12 x13 => x13 (nbq (nat_lit 4) (nat_lit 6) rfl)) (fun x9 => x9 (nbq (nat_lit 4) (nat_lit 7) rfl)) (fun x9 x10 => x10 (nbq (nat_lit 4) (nat_lit 8) rfl)) (fun x9 => x9 (nbq (nat_lit 4) (nat_lit 9) rfl)) (fun x9 x10 x11 _ _ x14 => x14 (nbq (nat_lit 4) (nat_lit 10) rfl)) (fun x9 x10 => x10 (nbq (nat_lit 4) (nat_lit 11) rfl)) (fun x9 => x9 (nbq (nat_lit 4) (nat_lit 12) rfl)) (fun x9 x10 _ x12 => x12 (nbq (nat_lit 4) (nat_lit 13) rfl)) (fun x9 => x9 (nbq (nat_lit 4) (nat_lit 14) rfl)) (fun x9 _ x11 => x11 (nbq (nat_lit 4) (nat_lit 15) rfl)) (fun x9 _ x11 => x11 (nbq (nat_lit 4) (nat_lit 16) rfl)) PUnit.unit (fun x9 _ _ _ => PUnit.unit) x8 (fun _ => @Go.BinOp.rec.{1} (fun x10 => (((Nat.hasNotBit (nat_lit 6144) (Go.BinOp.ctorIdx x10)) → (Option AVal)) → (Option AVal))) (fun x10 => x10 (nbq (nat_lit 6144) (nat_lit 0) rfl)) (fun x10 => x10 (nbq (nat_lit 6144) (nat_lit 1) rfl)) (fun x10 => x10 (nbq (nat_lit 6144) (nat_lit 2) rfl)) (fun x10 => x10 (nbq (nat_lit 6144) (nat_lit 3) rfl)) (fun x10 => x10 (nbq (nat_lit 6144) (nat_lit 4) rfl)) (fun x10 => x10 (nbq (nat_lit 6144) (nat_lit 5) rfl)) (fun x10 => x10 (nbq (nat_lit 6144) (nat_lit 6) rfl)) (fun x10 => x10 (nbq (nat_lit 6144) (nat_lit 7) rfl)) (fun x10 => x10 (nbq (nat_lit 6144) (nat_lit 8) rfl)) (fun x10 => x10 (nbq (nat_lit 6144) (nat_lit 9) rfl)) (fun x10 => x10 (nbq (nat_lit 6144) (nat_lit 10) rfl)) (fun _ => @Option.rec.{1, 0} _ (fun _ => Option AVal) (@Option.none _) (fun x11 => @Option.some _ (AVal.bool x11)) (FeqTop x1 x2 x3 x5 x6 x7 (AVal.str x0) x8)) (fun _ => @Option.rec.{1, 0} _ (fun _ => Option AVal) (@Option.none _) (fun x11 => @Option.some _ (AVal.bool (Bool.not x11))) (FeqTop x1 x2 x3 x5 x6 x7 (AVal.str x0) x8)) (fun x10 => x10 (nbq (nat_lit 6144) (nat_lit 13) rfl)) (fun x10 => x10 (nbq (nat_lit 6144) (nat_lit 14) rfl)) (fun x10 => x10 (nbq (nat_lit 6144) (nat_lit 15) rfl)) (fun x10 => x10 (nbq (nat_lit 6144) (nat_lit 16) rfl)) x4 (fun _ => @Option.none _)))
noncomputable def FbinA : (AProg → ((List (PTree AObj)) → (Heap → (Go.BinOp → (Go.TypeId → (Go.Operand → (Go.Operand → (AVal → (AVal → (Option AVal)))))))))) :=
  (fun x0 x1 x2 x3 x4 x5 x6 x7 x8 => @AVal.rec.{1} (fun _ => (AProg → ((List (PTree AObj)) → (Heap → (Go.BinOp → (Go.TypeId → (Go.Operand → (Go.Operand → (AVal → (Option AVal)))))))))) (fun _ => PUnit) (fun _ x10 x11 x12 x13 x14 x15 x16 x17 => FbinA_0 x7 x10 x11 x12 x13 x14 x15 x16 x17) (fun x9 x10 x11 x12 x13 x14 x15 x16 x17 x18 => FbinA_1 x9 x10 x11 x12 x13 x14 x15 x16 x17 x18) (fun x9 x10 x11 x12 x13 x14 x15 x16 x17 => FbinA_2 x9 x10 x11 x12 x13 x14 x15 x16 x17) (fun _ _ x11 x12 x13 x14 x15 x16 x17 x18 => FbinA_0 x7 x11 x12 x13 x14 x15 x16 x17 x18) (fun x9 x10 x11 x12 x13 x14 x15 x16 => FbinA_0 x7 x9 x10 x11 x12 x13 x14 x15 x16) (fun _ _ _ _ x13 x14 x15 x16 x17 x18 x19 x20 => FbinA_0 x7 x13 x14 x15 x16 x17 x18 x19 x20) (fun _ _ _ _ x13 x14 x15 x16 x17 x18 x19 x20 => FbinA_0 x7 x13 x14 x15 x16 x17 x18 x19 x20) (fun x9 x10 x11 x12 x13 x14 x15 x16 => FbinA_0 x7 x9 x10 x11 x12 x13 x14 x15 x16) (fun _ x10 x11 x12 x13 x14 x15 x16 x17 => FbinA_0 x7 x10 x11 x12 x13 x14 x15 x16 x17) (fun x9 x10 x11 x12 x13 x14 x15 x16 => FbinA_0 x7 x9 x10 x11 x12 x13 x14 x15 x16) (fun _ _ _ _ _ x14 x15 x16 x17 x18 x19 x20 x21 => FbinA_0 x7 x14 x15 x16 x17 x18 x19 x20 x21) (fun _ x10 x11 x12 x13 x14 x15 x16 x17 => FbinA_0 x7 x10 x11 x12 x13 x14 x15 x16 x17) (fun x9 x10 x11 x12 x13 x14 x15 x16 => FbinA_0 x7 x9 x10 x11 x12 x13 x14 x15 x16) (fun _ x10 _ x12 x13 x14 x15 x16 x17 x18 x19 => FbinA_0 x7 x12 x13 x14 x15 x16 x17 x18 x19) (fun x9 x10 x11 x12 x13 x14 x15 x16 => FbinA_0 x7 x9 x10 x11 x12 x13 x14 x15 x16) (fun _ _ x11 x12 x13 x14 x15 x16 x17 x18 => FbinA_0 x7 x11 x12 x13 x14 x15 x16 x17 x18) (fun _ _ x11 x12 x13 x14 x15 x16 x17 x18 => FbinA_0 x7 x11 x12 x13 x14 x15 x16 x17 x18) PUnit.unit (fun x9 _ _ _ => PUnit.unit) x7 x0 x1 x2 x3 x4 x5 x6 x8)
theorem FbinA_eq : @FbinA = @Go.Abs.binA := by
  delta FbinA
  delta FbinA_2
  delta FbinA_1
  delta FbinA_0
  rw [FintOp_eq, FbeqKind_eq, FshiftOp_eq, FisShift_eq, FeqTop_eq, FstrOp_eq]; funext p0 p1 p2 p3 p4 p5 p6 p7 p8; cases p7 <;> kernel_rfl
noncomputable def FqBin_0 : (AProg → ((List (PTree AObj)) → (Env → (Heap → (Go.BinOp → (Go.TypeId → (Go.Operand → (Go.Operand → (AVal → (Option AVal)))))))))) :=
  (fun x0 x1 x2 x3 x4 x5 x6 x7 x8 => @Option.rec.{1, 0} _ (fun x9 => (((Nat.hasNotBit (nat_lit 2) (@Option.ctorIdx AVal x9)) → (Option AVal)) → (Option AVal))) (fun x9 => x9 (nbq (nat_lit 2) (nat_lit 0) rfl)) (fun x9 _ => FbinA x0 x1 x3 x4 x5 x6 x7 x8 x9) (Faeval x2 x7) (fun _ => @Option.none _))
noncomputable def FqBin : (AProg → ((List (PTree AObj)) → (Env → (Heap → (Go.BinOp → (Go.TypeId → (Go.Operand → (Go.Operand → (Option AVal))))))))) :=
  (fun x0 x1 x2 x3 x4 x5 x6 x7 => @Option.rec.{1, 0} _ (fun x8 => (((Nat.hasNotBit (nat_lit 2) (@Option.ctorIdx AVal x8)) → (Option AVal)) → (Option AVal))) (fun x8 => x8 (nbq (nat_lit 2) (nat_lit 0) rfl)) (fun x8 _ => FqBin_0 x0 x1 x2 x3 x4 x5 x6 x7 x8) (Faeval x2 x6) (fun _ => @Option.none _))
theorem FqBin_eq : @FqBin = @Go.Abs.qBin := by
  delta FqBin
  delta FqBin_0
  rw [FbinA_eq, Faeval_eq]; kernel_rfl
noncomputable def FunA_0 : (AVal → (Option AVal)) :=
  (fun x0 => @AVal.rec.{1} (fun x1 => (((Nat.hasNotBit (nat_lit 2) (AVal.ctorIdx x1)) → (Option AVal)) → (Option AVal))) (fun _ => PUnit) (fun x1 x2 => x2 (nbq (nat_lit 2) (nat_lit 0) rfl)) (fun x1 x2 _ => @Option.some _ (AVal.int x1 (FwrapA x1 (FInt_sub (Int.ofNat (nat_lit 0)) x2)))) (fun x1 x2 => x2 (nbq (nat_lit 2) (nat_lit 2) rfl)) (fun x1 x2 x3 => x3 (nbq (nat_lit 2) (nat_lit 3) rfl)) (fun x1 => x1 (nbq (nat_lit 2) (nat_lit 4) rfl)) (fun x1 x2 x3 x4 x5 => x5 (nbq (nat_lit 2) (nat_lit 5) rfl)) (fun x1 x2 x3 x4 x5 => x5 (nbq (nat_lit 2) (nat_lit 6) rfl)) (fun x1 => x1 (nbq (nat_lit 2) (nat_lit 7) rfl)) (fun x1 x2 => x2 (nbq (nat_lit 2) (nat_lit 8) rfl)) (fun x1 => x1 (nbq (nat_lit 2) (nat_lit 9) rfl)) (fun x1 x2 x3 _ _ x6 => x6 (nbq (nat_lit 2) (nat_lit 10) rfl)) (fun x1 x2 => x2 (nbq (nat_lit 2) (nat_lit 11) rfl)) (fun x1 => x1 (nbq (nat_lit 2) (nat_lit 12) rfl)) (fun x1 x2 _ x4 => x4 (nbq (nat_lit 2) (nat_lit 13) rfl)) (fun x1 => x1 (nbq (nat_lit 2) (nat_lit 14) rfl)) (fun x1 _ x3 => x3 (nbq (nat_lit 2) (nat_lit 15) rfl)) (fun x1 _ x3 => x3 (nbq (nat_lit 2) (nat_lit 16) rfl)) PUnit.unit (fun x1 _ _ _ => PUnit.unit) x0 (fun _ => @Option.none _))
noncomputable def FunA_1 : (AVal → (Option AVal)) :=
  (fun x0 => @AVal.rec.{1} (fun x1 => (((Nat.hasNotBit (nat_lit 1) (AVal.ctorIdx x1)) → (Option AVal)) → (Option AVal))) (fun _ => PUnit) (fun x1 _ => @Option.some _ (AVal.bool (Bool.not x1))) (fun x1 x2 x3 => x3 (nbq (nat_lit 1) (nat_lit 1) rfl)) (fun x1 x2 => x2 (nbq (nat_lit 1) (nat_lit 2) rfl)) (fun x1 x2 x3 => x3 (nbq (nat_lit 1) (nat_lit 3) rfl)) (fun x1 => x1 (nbq (nat_lit 1) (nat_lit 4) rfl)) (fun x1 x2 x3 x4 x5 => x5 (nbq (nat_lit 1) (nat_lit 5) rfl)) (fun x1 x2 x3 x4 x5 => x5 (nbq (nat_lit 1) (nat_lit 6) rfl)) (fun x1 => x1 (nbq (nat_lit 1) (nat_lit 7) rfl)) (fun x1 x2 => x2 (nbq (nat_lit 1) (nat_lit 8) rfl)) (fun x1 => x1 (nbq (nat_lit 1) (nat_lit 9) rfl)) (fun x1 x2 x3 _ _ x6 => x6 (nbq (nat_lit 1) (nat_lit 10) rfl)) (fun x1 x2 => x2 (nbq (nat_lit 1) (nat_lit 11) rfl)) (fun x1 => x1 (nbq (nat_lit 1) (nat_lit 12) rfl)) (fun x1 x2 _ x4 => x4 (nbq (nat_lit 1) (nat_lit 13) rfl)) (fun x1 => x1 (nbq (nat_lit 1) (nat_lit 14) rfl)) (fun x1 _ x3 => x3 (nbq (nat_lit 1) (nat_lit 15) rfl)) (fun x1 _ x3 => x3 (nbq (nat_lit 1) (nat_lit 16) rfl)) PUnit.unit (fun x1 _ _ _ => PUnit.unit) x0 (fun _ => @Option.none _))
noncomputable def FunA : (Go.UnOp → (AVal → (Option AVal))) :=
  (fun x0 x1 => @Go.UnOp.rec.{1} (fun _ => (AVal → (Option AVal))) (fun x2 => FunA_0 x2) (fun _ => @Option.none _) (fun x2 => FunA_1 x2) (fun _ => @Option.none _) x0 x1)
theorem FunA_eq : @FunA = @Go.Abs.unA := by
  delta FunA
  delta FunA_1
  delta FunA_0
  rw [FwrapA_eq, FInt_sub_eq]; funext p0 p1; cases p0 <;> kernel_rfl
noncomputable def FqUn : (Env → (Go.UnOp → (Go.Operand → (Option AVal)))) :=
  (fun x0 x1 x2 => @Option.rec.{1, 0} _ (fun _ => Option AVal) (@Option.none _) (fun x3 => FunA x1 x3) (Faeval x0 x2))
theorem FqUn_eq : @FqUn = @Go.Abs.qUn := by
  delta FqUn
  rw [FunA_eq, Faeval_eq]; kernel_rfl
noncomputable def FvalsBytes_0 : ((Option (List Nat)) → (Nat → (Option (List Nat)))) :=
  (fun x0 x1 => @Bool.rec.{1} (fun _ => Option (List Nat)) (@Option.none _) (@Option.rec.{1, 0} _ (fun _ => Option (List Nat)) (@Option.none _) (fun x2 => @Option.some _ (@List.cons _ x1 x2)) x0) (Nat.ble (Nat.succ x1) (nat_lit 256)))
noncomputable def FvalsBytes_1 : ((Option (List Nat)) → (Go.IntKind → (Int → (Option (List Nat))))) :=
  (fun x0 x1 x2 => @Go.IntKind.rec.{1} (fun x3 => (((Nat.hasNotBit (nat_lit 16) (Go.IntKind.ctorIdx x3)) → (Option (List Nat))) → (Option (List Nat)))) (fun x3 => x3 (nbq (nat_lit 16) (nat_lit 0) rfl)) (fun x3 => x3 (nbq (nat_lit 16) (nat_lit 1) rfl)) (fun x3 => x3 (nbq (nat_lit 16) (nat_lit 2) rfl)) (fun x3 => x3 (nbq (nat_lit 16) (nat_lit 3) rfl)) (fun _ => @Int.rec.{1} (fun x4 => (((Nat.hasNotBit (nat_lit 1) (Int.ctorIdx x4)) → (Option (List Nat))) → (Option (List Nat)))) (fun x4 _ => FvalsBytes_0 x0 x4) (fun x4 x5 => x5 (nbq (nat_lit 1) (nat_lit 1) rfl)) x2 (fun _ => @Option.none _)) (fun x3 => x3 (nbq (nat_lit 16) (nat_lit 5) rfl)) (fun x3 => x3 (nbq (nat_lit 16) (nat_lit 6) rfl)) (fun x3 => x3 (nbq (nat_lit 16) (nat_lit 7) rfl)) x1 (fun _ => @Option.none _))
noncomputable def FvalsBytes_2 : (AVal → ((Option (List Nat)) → (Option (List Nat)))) :=
  (fun x0 x1 => @AVal.rec.{1} (fun x2 => (((Nat.hasNotBit (nat_lit 2) (AVal.ctorIdx x2)) → (Option (List Nat))) → (Option (List Nat)))) (fun _ => PUnit) (fun x2 x3 => x3 (nbq (nat_lit 2) (nat_lit 0) rfl)) (fun x2 x3 _ => FvalsBytes_1 x1 x2 x3) (fun x2 x3 => x3 (nbq (nat_lit 2) (nat_lit 2) rfl)) (fun x2 x3 x4 => x4 (nbq (nat_lit 2) (nat_lit 3) rfl)) (fun x2 => x2 (nbq (nat_lit 2) (nat_lit 4) rfl)) (fun x2 x3 x4 x5 x6 => x6 (nbq (nat_lit 2) (nat_lit 5) rfl)) (fun x2 x3 x4 x5 x6 => x6 (nbq (nat_lit 2) (nat_lit 6) rfl)) (fun x2 => x2 (nbq (nat_lit 2) (nat_lit 7) rfl)) (fun x2 x3 => x3 (nbq (nat_lit 2) (nat_lit 8) rfl)) (fun x2 => x2 (nbq (nat_lit 2) (nat_lit 9) rfl)) (fun x2 x3 x4 _ _ x7 => x7 (nbq (nat_lit 2) (nat_lit 10) rfl)) (fun x2 x3 => x3 (nbq (nat_lit 2) (nat_lit 11) rfl)) (fun x2 => x2 (nbq (nat_lit 2) (nat_lit 12) rfl)) (fun x2 x3 _ x5 => x5 (nbq (nat_lit 2) (nat_lit 13) rfl)) (fun x2 => x2 (nbq (nat_lit 2) (nat_lit 14) rfl)) (fun x2 _ x4 => x4 (nbq (nat_lit 2) (nat_lit 15) rfl)) (fun x2 _ x4 => x4 (nbq (nat_lit 2) (nat_lit 16) rfl)) PUnit.unit (fun x2 _ _ _ => PUnit.unit) x0 (fun _ => @Option.none _))
noncomputable def FvalsBytes : ((List AVal) → (Option (List Nat))) :=
  (fun x0 => @List.rec.{1, 0} _ (fun _ => Option (List Nat)) (@Option.some _ (@List.nil _)) (fun x1 _ x3 => FvalsBytes_2 x1 x3) x0)
theorem FvalsBytes_eq : @FvalsBytes = @Go.Abs.valsBytes := by
  funext p0
  refine @List.rec _ (fun x => @FvalsBytes x = @Go.Abs.valsBytes x) ?_ ?_ p0
  · skip
    refine Eq.trans (show (@FvalsBytes (@List.nil _)) = (@Option.some _ (@List.nil _)) by kernel_rfl) ?_
    kernel_rfl
  · intro f0 f1 h0
    refine Eq.trans (show (@FvalsBytes (@List.cons _ f0 f1)) = (FvalsBytes_2 f0 (@FvalsBytes f1)) by kernel_rfl) ?_
    delta FvalsBytes_2
    delta FvalsBytes_1
    delta FvalsBytes_0
    generalize (@FvalsBytes f1) = r0 at h0 ⊢
    subst h0
    kernel_rfl
noncomputable def FconvA_bytesText_0 : (Nat → (Nat → ((List AVal) → (Option AVal)))) :=
  (fun x0 x1 x2 => @Option.rec.{1, 0} _ (fun _ => Option AVal) (@Option.none _) (fun x3 => @Option.rec.{1, 0} _ (fun _ => Option AVal) (@Option.none _) (fun x4 => @Option.some _ (AVal.str x4)) (FvalsBytes x3)) (FtakeN AVal x1 (FdropN AVal x0 x2)))
noncomputable def FconvA_bytesText : ((List (PTree AObj)) → (Heap → (Pos → (Nat → (Nat → (Option AVal)))))) :=
  (fun x0 x1 x2 x3 x4 => @Option.rec.{1, 0} _ (fun _ => Option AVal) (@Option.none _) (fun x5 => FconvA_bytesText_0 x3 x4 x5) (FcellsAt x0 x1 x2))
theorem FconvA_bytesText_eq : @FconvA_bytesText = @Go.Abs.convA.bytesText := by
  delta FconvA_bytesText
  delta FconvA_bytesText_0
  rw [FvalsBytes_eq, FtakeN_eq, FdropN_eq, FcellsAt_eq]; kernel_rfl
noncomputable def FconvA_0 : (AVal → (Go.IntKind → (Option AVal))) :=
  (fun x0 x1 => @AVal.rec.{1} (fun x2 => (((Nat.hasNotBit (nat_lit 2) (AVal.ctorIdx x2)) → (Option AVal)) → (Option AVal))) (fun _ => PUnit) (fun x2 x3 => x3 (nbq (nat_lit 2) (nat_lit 0) rfl)) (fun x2 x3 _ => @Option.some _ (AVal.int x1 (FwrapA x1 x3))) (fun x2 x3 => x3 (nbq (nat_lit 2) (nat_lit 2) rfl)) (fun x2 x3 x4 => x4 (nbq (nat_lit 2) (nat_lit 3) rfl)) (fun x2 => x2 (nbq (nat_lit 2) (nat_lit 4) rfl)) (fun x2 x3 x4 x5 x6 => x6 (nbq (nat_lit 2) (nat_lit 5) rfl)) (fun x2 x3 x4 x5 x6 => x6 (nbq (nat_lit 2) (nat_lit 6) rfl)) (fun x2 => x2 (nbq (nat_lit 2) (nat_lit 7) rfl)) (fun x2 x3 => x3 (nbq (nat_lit 2) (nat_lit 8) rfl)) (fun x2 => x2 (nbq (nat_lit 2) (nat_lit 9) rfl)) (fun x2 x3 x4 _ _ x7 => x7 (nbq (nat_lit 2) (nat_lit 10) rfl)) (fun x2 x3 => x3 (nbq (nat_lit 2) (nat_lit 11) rfl)) (fun x2 => x2 (nbq (nat_lit 2) (nat_lit 12) rfl)) (fun x2 x3 _ x5 => x5 (nbq (nat_lit 2) (nat_lit 13) rfl)) (fun x2 => x2 (nbq (nat_lit 2) (nat_lit 14) rfl)) (fun x2 _ x4 => x4 (nbq (nat_lit 2) (nat_lit 15) rfl)) (fun x2 _ x4 => x4 (nbq (nat_lit 2) (nat_lit 16) rfl)) PUnit.unit (fun x2 _ _ _ => PUnit.unit) x0 (fun _ => @Option.none _))
noncomputable def FconvA_1 : ((List (PTree AObj)) → (Heap → (Pos → (Nat → (Nat → (Go.IntKind → (Option AVal))))))) :=
  (fun x0 x1 x2 x3 x4 x5 => @Go.IntKind.rec.{1} (fun x6 => (((Nat.hasNotBit (nat_lit 16) (Go.IntKind.ctorIdx x6)) → (Option AVal)) → (Option AVal))) (fun x6 => x6 (nbq (nat_lit 16) (nat_lit 0) rfl)) (fun x6 => x6 (nbq (nat_lit 16) (nat_lit 1) rfl)) (fun x6 => x6 (nbq (nat_lit 16) (nat_lit 2) rfl)) (fun x6 => x6 (nbq (nat_lit 16) (nat_lit 3) rfl)) (fun _ => FconvA_bytesText x0 x1 x2 x3 x4) (fun x6 => x6 (nbq (nat_lit 16) (nat_lit 5) rfl)) (fun x6 => x6 (nbq (nat_lit 16) (nat_lit 6) rfl)) (fun x6 => x6 (nbq (nat_lit 16) (nat_lit 7) rfl)) x5 (fun _ => @Option.none _))
noncomputable def FconvA_2 : ((List (PTree AObj)) → (Heap → (Pos → (Nat → (Nat → (Go.TypeDesc → (Option AVal))))))) :=
  (fun x0 x1 x2 x3 x4 x5 => @Go.TypeDesc.rec.{1} (fun x6 => (((Nat.hasNotBit (nat_lit 4) (Go.TypeDesc.ctorIdx x6)) → (Option AVal)) → (Option AVal))) (fun x6 => x6 (nbq (nat_lit 4) (nat_lit 0) rfl)) (fun x6 => x6 (nbq (nat_lit 4) (nat_lit 1) rfl)) (fun x6 _ => FconvA_1 x0 x1 x2 x3 x4 x6) (fun x6 x7 => x7 (nbq (nat_lit 4) (nat_lit 3) rfl)) (fun x6 x7 => x7 (nbq (nat_lit 4) (nat_lit 4) rfl)) (fun x6 => x6 (nbq (nat_lit 4) (nat_lit 5) rfl)) (fun x6 => x6 (nbq (nat_lit 4) (nat_lit 6) rfl)) (fun x6 x7 => x7 (nbq (nat_lit 4) (nat_lit 7) rfl)) (fun x6 x7 => x7 (nbq (nat_lit 4) (nat_lit 8) rfl)) (fun x6 x7 x8 => x8 (nbq (nat_lit 4) (nat_lit 9) rfl)) (fun x6 x7 x8 => x8 (nbq (nat_lit 4) (nat_lit 10) rfl)) (fun x6 x7 x8 => x8 (nbq (nat_lit 4) (nat_lit 11) rfl)) (fun x6 x7 => x7 (nbq (nat_lit 4) (nat_lit 12) rfl)) (fun x6 x7 x8 x9 => x9 (nbq (nat_lit 4) (nat_lit 13) rfl)) (fun x6 x7 => x7 (nbq (nat_lit 4) (nat_lit 14) rfl)) (fun x6 x7 => x7 (nbq (nat_lit 4) (nat_lit 15) rfl)) (fun x6 x7 x8 => x8 (nbq (nat_lit 4) (nat_lit 16) rfl)) x5 (fun _ => @Option.none _))
noncomputable def FconvA_3 : (AProg → ((List (PTree AObj)) → (Heap → (Pos → (Nat → (Nat → (Go.TypeId → (Option AVal)))))))) :=
  (fun x0 x1 x2 x3 x4 x5 x6 => @Option.rec.{1, 0} _ (fun x7 => (((Nat.hasNotBit (nat_lit 2) (@Option.ctorIdx Go.TypeDesc x7)) → (Option AVal)) → (Option AVal))) (fun x7 => x7 (nbq (nat_lit 2) (nat_lit 0) rfl)) (fun x7 _ => FconvA_2 x1 x2 x3 x4 x5 x7) (Fund x0 x6) (fun _ => @Option.none _))
noncomputable def FconvA_4 : (AProg → ((List (PTree AObj)) → (Heap → (Go.TypeDesc → (Pos → (Nat → (Nat → (Option AVal)))))))) :=
  (fun x0 x1 x2 x3 x4 x5 x6 => @Go.TypeDesc.rec.{1} (fun x7 => (((Nat.hasNotBit (nat_lit 256) (Go.TypeDesc.ctorIdx x7)) → (Option AVal)) → (Option AVal))) (fun x7 => x7 (nbq (nat_lit 256) (nat_lit 0) rfl)) (fun x7 => x7 (nbq (nat_lit 256) (nat_lit 1) rfl)) (fun x7 x8 => x8 (nbq (nat_lit 256) (nat_lit 2) rfl)) (fun x7 x8 => x8 (nbq (nat_lit 256) (nat_lit 3) rfl)) (fun x7 x8 => x8 (nbq (nat_lit 256) (nat_lit 4) rfl)) (fun x7 => x7 (nbq (nat_lit 256) (nat_lit 5) rfl)) (fun x7 => x7 (nbq (nat_lit 256) (nat_lit 6) rfl)) (fun x7 x8 => x8 (nbq (nat_lit 256) (nat_lit 7) rfl)) (fun x7 _ => FconvA_3 x0 x1 x2 x4 x5 x6 x7) (fun x7 x8 x9 => x9 (nbq (nat_lit 256) (nat_lit 9) rfl)) (fun x7 x8 x9 => x9 (nbq (nat_lit 256) (nat_lit 10) rfl)) (fun x7 x8 x9 => x9 (nbq (nat_lit 256) (nat_lit 11) rfl)) (fun x7 x8 => x8 (nbq (nat_lit 256) (nat_lit 12) rfl)) (fun x7 x8 x9 x10 => x10 (nbq (nat_lit 256) (nat_lit 13) rfl)) (fun x7 x8 => x8 (nbq (nat_lit 256) (nat_lit 14) rfl)) (fun x7 x8 => x8 (nbq (nat_lit 256) (nat_lit 15) rfl)) (fun x7 x8 x9 => x9 (nbq (nat_lit 256) (nat_lit 16) rfl)) x3 (fun _ => @Option.none _))
noncomputable def FconvA_5 : (Go.IntKind → (Option AVal)) :=
  (fun x0 => @Go.IntKind.rec.{1} (fun x1 => (((Nat.hasNotBit (nat_lit 16) (Go.IntKind.ctorIdx x1)) → (Option AVal)) → (Option AVal))) (fun x1 => x1 (nbq (nat_lit 16) (nat_lit 0) rfl)) (fun x1 => x1 (nbq (nat_lit 16) (nat_lit 1) rfl)) (fun x1 => x1 (nbq (nat_lit 16) (nat_lit 2) rfl)) (fun x1 => x1 (nbq (nat_lit 16) (nat_lit 3) rfl)) (fun _ => @Option.some _ (AVal.str (@List.nil _))) (fun x1 => x1 (nbq (nat_lit 16) (nat_lit 5) rfl)) (fun x1 => x1 (nbq (nat_lit 16) (nat_lit 6) rfl)) (fun x1 => x1 (nbq (nat_lit 16) (nat_lit 7) rfl)) x0 (fun _ => @Option.none _))
noncomputable def FconvA_6 : (Go.TypeDesc → (Option AVal)) :=
  (fun x0 => @Go.TypeDesc.rec.{1} (fun x1 => (((Nat.hasNotBit (nat_lit 4) (Go.TypeDesc.ctorIdx x1)) → (Option AVal)) → (Option AVal))) (fun x1 => x1 (nbq (nat_lit 4) (nat_lit 0) rfl)) (fun x1 => x1 (nbq (nat_lit 4) (nat_lit 1) rfl)) (fun x1 _ => FconvA_5 x1) (fun x1 x2 => x2 (nbq (nat_lit 4) (nat_lit 3) rfl)) (fun x1 x2 => x2 (nbq (nat_lit 4) (nat_lit 4) rfl)) (fun x1 => x1 (nbq (nat_lit 4) (nat_lit 5) rfl)) (fun x1 => x1 (nbq (nat_lit 4) (nat_lit 6) rfl)) (fun x1 x2 => x2 (nbq (nat_lit 4) (nat_lit 7) rfl)) (fun x1 x2 => x2 (nbq (nat_lit 4) (nat_lit 8) rfl)) (fun x1 x2 x3 => x3 (nbq (nat_lit 4) (nat_lit 9) rfl)) (fun x1 x2 x3 => x3 (nbq (nat_lit 4) (nat_lit 10) rfl)) (fun x1 x2 x3 => x3 (nbq (nat_lit 4) (nat_lit 11) rfl)) (fun x1 x2 => x2 (nbq (nat_lit 4) (nat_lit 12) rfl)) (fun x1 x2 x3 x4 => x4 (nbq (nat_lit 4) (nat_lit 13) rfl)) (fun x1 x2 => x2 (nbq (nat_lit 4) (nat_lit 14) rfl)) (fun x1 x2 => x2 (nbq (nat_lit 4) (nat_lit 15) rfl)) (fun x1 x2 x3 => x3 (nbq (nat_lit 4) (nat_lit 16) rfl)) x0 (fun _ => @Option.none _))
noncomputable def FconvA_7 : (AProg → (Go.TypeDesc → (Option AVal))) :=
  (fun x0 x1 => @Go.TypeDesc.rec.{1} (fun x2 => (((Nat.hasNotBit (nat_lit 256) (Go.TypeDesc.ctorIdx x2)) → (Option AVal)) → (Option AVal))) (fun x2 => x2 (nbq (nat_lit 256) (nat_lit 0) rfl)) (fun x2 => x2 (nbq (nat_lit 256) (nat_lit 1) rfl)) (fun x2 x3 => x3 (nbq (nat_lit 256) (nat_lit 2) rfl)) (fun x2 x3 => x3 (nbq (nat_lit 256) (nat_lit 3) rfl)) (fun x2 x3 => x3 (nbq (nat_lit 256) (nat_lit 4) rfl)) (fun x2 => x2 (nbq (nat_lit 256) (nat_lit 5) rfl)) (fun x2 => x2 (nbq (nat_lit 256) (nat_lit 6) rfl)) (fun x2 x3 => x3 (nbq (nat_lit 256) (nat_lit 7) rfl)) (fun x2 _ => @Option.rec.{1, 0} _ (fun x4 => (((Nat.hasNotBit (nat_lit 2) (@Option.ctorIdx Go.TypeDesc x4)) → (Option AVal)) → (Option AVal))) (fun x4 => x4 (nbq (nat_lit 2) (nat_lit 0) rfl)) (fun x4 _ => FconvA_6 x4) (Fund x0 x2) (fun _ => @Option.none _)) (fun x2 x3 x4 => x4 (nbq (nat_lit 256) (nat_lit 9) rfl)) (fun x2 x3 x4 => x4 (nbq (nat_lit 256) (nat_lit 10) rfl)) (fun x2 x3 x4 => x4 (nbq (nat_lit 256) (nat_lit 11) rfl)) (fun x2 x3 => x3 (nbq (nat_lit 256) (nat_lit 12) rfl)) (fun x2 x3 x4 x5 => x5 (nbq (nat_lit 256) (nat_lit 13) rfl)) (fun x2 x3 => x3 (nbq (nat_lit 256) (nat_lit 14) rfl)) (fun x2 x3 => x3 (nbq (nat_lit 256) (nat_lit 15) rfl)) (fun x2 x3 x4 => x4 (nbq (nat_lit 256) (nat_lit 16) rfl)) x1 (fun _ => @Option.none _))
noncomputable def FconvA_8 : (AProg → ((List (PTree AObj)) → (Heap → (AVal → (Go.TypeDesc → (Option AVal)))))) :=
  (fun x0 x1 x2 x3 x4 => @AVal.rec.{1} (fun x5 => (((Nat.hasNotBit (nat_lit 228) (AVal.ctorIdx x5)) → (Option AVal)) → (Option AVal))) (fun _ => PUnit) (fun x5 x6 => x6 (nbq (nat_lit 228) (nat_lit 0) rfl)) (fun x5 x6 x7 => x7 (nbq (nat_lit 228) (nat_lit 1) rfl)) (fun x5 _ => @Option.some _ (AVal.str x5)) (fun x5 x6 x7 => x7 (nbq (nat_lit 228) (nat_lit 3) rfl)) (fun x5 => x5 (nbq (nat_lit 228) (nat_lit 4) rfl)) (fun x5 x6 x7 x8 _ => FconvA_4 x0 x1 x2 x4 x5 x6 x7) (fun x5 x6 x7 x8 _ => FconvA_4 x0 x1 x2 x4 x5 x6 x7) (fun _ => FconvA_7 x0 x4) (fun x5 x6 => x6 (nbq (nat_lit 228) (nat_lit 8) rfl)) (fun x5 => x5 (nbq (nat_lit 228) (nat_lit 9) rfl)) (fun x5 x6 x7 _ _ x10 => x10 (nbq (nat_lit 228) (nat_lit 10) rfl)) (fun x5 x6 => x6 (nbq (nat_lit 228) (nat_lit 11) rfl)) (fun x5 => x5 (nbq (nat_lit 228) (nat_lit 12) rfl)) (fun x5 x6 _ x8 => x8 (nbq (nat_lit 228) (nat_lit 13) rfl)) (fun x5 => x5 (nbq (nat_lit 228) (nat_lit 14) rfl)) (fun x5 _ x7 => x7 (nbq (nat_lit 228) (nat_lit 15) rfl)) (fun x5 _ x7 => x7 (nbq (nat_lit 228) (nat_lit 16) rfl)) PUnit.unit (fun x5 _ _ _ => PUnit.unit) x3 (fun _ => @Option.none _))
noncomputable def FconvA_9 : (AProg → ((List (PTree AObj)) → (Heap → (AVal → (Go.TypeDesc → (Go.TypeDesc → (Option AVal))))))) :=
  (fun x0 x1 x2 x3 x4 x5 => @Go.TypeDesc.rec.{1} (fun x6 => (((Nat.hasNotBit (nat_lit 36) (Go.TypeDesc.ctorIdx x6)) → (Option AVal)) → (Option AVal))) (fun x6 => x6 (nbq (nat_lit 36) (nat_lit 0) rfl)) (fun x6 => x6 (nbq (nat_lit 36) (nat_lit 1) rfl)) (fun x6 _ => FconvA_0 x3 x6) (fun x6 x7 => x7 (nbq (nat_lit 36) (nat_lit 3) rfl)) (fun x6 x7 => x7 (nbq (nat_lit 36) (nat_lit 4) rfl)) (fun _ => FconvA_8 x0 x1 x2 x3 x4) (fun x6 => x6 (nbq (nat_lit 36) (nat_lit 6) rfl)) (fun x6 x7 => x7 (nbq (nat_lit 36) (nat_lit 7) rfl)) (fun x6 x7 => x7 (nbq (nat_lit 36) (nat_lit 8) rfl)) (fun x6 x7 x8 => x8 (nbq (nat_lit 36) (nat_lit 9) rfl)) (fun x6 x7 x8 => x8 (nbq (nat_lit 36) (nat_lit 10) rfl)) (fun x6 x7 x8 => x8 (nbq (nat_lit 36) (nat_lit 11) rfl)) (fun x6 x7 => x7 (nbq (nat_lit 36) (nat_lit 12) rfl)) (fun x6 x7 x8 x9 => x9 (nbq (nat_lit 36) (nat_lit 13) rfl)) (fun x6 x7 => x7 (nbq (nat_lit 36) (nat_lit 14) rfl)) (fun x6 x7 => x7 (nbq (nat_lit 36) (nat_lit 15) rfl)) (fun x6 x7 x8 => x8 (nbq (nat_lit 36) (nat_lit 16) rfl)) x5 (fun _ => @Option.none _))
noncomputable def FconvA_10 : (AProg → ((List (PTree AObj)) → (Heap → (Go.TypeId → (AVal → (Go.TypeDesc → (Option AVal))))))) :=
  (fun x0 x1 x2 x3 x4 x5 => @Option.rec.{1, 0} _ (fun x6 => (((Nat.hasNotBit (nat_lit 2) (@Option.ctorIdx Go.TypeDesc x6)) → (Option AVal)) → (Option AVal))) (fun x6 => x6 (nbq (nat_lit 2) (nat_lit 0) rfl)) (fun x6 _ => FconvA_9 x0 x1 x2 x4 x5 x6) (Fund x0 x3) (fun _ => @Option.none _))
noncomputable def FconvA : (AProg → ((List (PTree AObj)) → (Heap → (Go.TypeId → (Go.TypeId → (AVal → (Option AVal))))))) :=
  (fun x0 x1 x2 x3 x4 x5 => @Option.rec.{1, 0} _ (fun x6 => (((Nat.hasNotBit (nat_lit 2) (@Option.ctorIdx Go.TypeDesc x6)) → (Option AVal)) → (Option AVal))) (fun x6 => x6 (nbq (nat_lit 2) (nat_lit 0) rfl)) (fun x6 _ => FconvA_10 x0 x1 x2 x4 x5 x6) (Fund x0 x3) (fun _ => @Option.none _))
theorem FconvA_eq : @FconvA = @Go.Abs.convA := by
  delta FconvA
  delta FconvA_10
  delta FconvA_9
  delta FconvA_8
  delta FconvA_7
  delta FconvA_6
  delta FconvA_5
  delta FconvA_4
  delta FconvA_3
  delta FconvA_2
  delta FconvA_1
  delta FconvA_0
  rw [FwrapA_eq, FconvA_bytesText_eq, Fund_eq]; kernel_rfl
noncomputable def FqConv : (AProg → ((List (PTree AObj)) → (Env → (Heap → (Go.TypeId → (Go.TypeId → (Go.Operand → (Option AVal)))))))) :=
  (fun x0 x1 x2 x3 x4 x5 x6 => @Option.rec.{1, 0} _ (fun _ => Option AVal) (@Option.none _) (fun x7 => FconvA x0 x1 x3 x4 x5 x7) (Faeval x2 x6))
theorem FqConv_eq : @FqConv = @Go.Abs.qConv := by
  delta FqConv
  rw [FconvA_eq, Faeval_eq]; kernel_rfl
noncomputable def FqIface_0 : (Go.TypeId → (AVal → (Go.TypeDesc → (Option AVal)))) :=
  (fun x0 x1 x2 => @Go.TypeDesc.rec.{1} (fun x3 => (((Nat.hasNotBit (nat_lit 16384) (Go.TypeDesc.ctorIdx x3)) → (Option AVal)) → (Option AVal))) (fun x3 => x3 (nbq (nat_lit 16384) (nat_lit 0) rfl)) (fun x3 => x3 (nbq (nat_lit 16384) (nat_lit 1) rfl)) (fun x3 x4 => x4 (nbq (nat_lit 16384) (nat_lit 2) rfl)) (fun x3 x4 => x4 (nbq (nat_lit 16384) (nat_lit 3) rfl)) (fun x3 x4 => x4 (nbq (nat_lit 16384) (nat_lit 4) rfl)) (fun x3 => x3 (nbq (nat_lit 16384) (nat_lit 5) rfl)) (fun x3 => x3 (nbq (nat_lit 16384) (nat_lit 6) rfl)) (fun x3 x4 => x4 (nbq (nat_lit 16384) (nat_lit 7) rfl)) (fun x3 x4 => x4 (nbq (nat_lit 16384) (nat_lit 8) rfl)) (fun x3 x4 x5 => x5 (nbq (nat_lit 16384) (nat_lit 9) rfl)) (fun x3 x4 x5 => x5 (nbq (nat_lit 16384) (nat_lit 10) rfl)) (fun x3 x4 x5 => x5 (nbq (nat_lit 16384) (nat_lit 11) rfl)) (fun x3 x4 => x4 (nbq (nat_lit 16384) (nat_lit 12) rfl)) (fun x3 x4 x5 x6 => x6 (nbq (nat_lit 16384) (nat_lit 13) rfl)) (fun x3 _ => @Option.none _) (fun x3 x4 => x4 (nbq (nat_lit 16384) (nat_lit 15) rfl)) (fun x3 x4 x5 => x5 (nbq (nat_lit 16384) (nat_lit 16) rfl)) x2 (fun _ => @Option.some _ (AVal.iface x0 x1)))
noncomputable def FqIface : (AProg → (Env → (Go.TypeId → (Go.Operand → (Option AVal))))) :=
  (fun x0 x1 x2 x3 => @Option.rec.{1, 0} _ (fun x4 => (((Nat.hasNotBit (nat_lit 2) (@Option.ctorIdx AVal x4)) → (Option AVal)) → (Option AVal))) (fun x4 => x4 (nbq (nat_lit 2) (nat_lit 0) rfl)) (fun x4 _ => @Option.rec.{1, 0} _ (fun x6 => (((Nat.hasNotBit (nat_lit 2) (@Option.ctorIdx Go.TypeDesc x6)) → (Option AVal)) → (Option AVal))) (fun x6 => x6 (nbq (nat_lit 2) (nat_lit 0) rfl)) (fun x6 _ => FqIface_0 x2 x4 x6) (Fund x0 x2) (fun _ => @Option.none _)) (Faeval x1 x3) (fun _ => @Option.none _))
theorem FqIface_eq : @FqIface = @Go.Abs.qIface := by
  delta FqIface
  delta FqIface_0
  rw [Fund_eq, Faeval_eq]; kernel_rfl
noncomputable def FevalAll_0 : ((Option (List AVal)) → (AVal → (Option (List AVal)))) :=
  (fun x0 x1 => @Option.rec.{1, 0} _ (fun x2 => (((Nat.hasNotBit (nat_lit 2) (@Option.ctorIdx (List AVal) x2)) → (Option (List AVal))) → (Option (List AVal)))) (fun x2 => x2 (nbq (nat_lit 2) (nat_lit 0) rfl)) (fun x2 _ => @Option.some _ (@List.cons _ x1 x2)) x0 (fun _ => @Option.none _))
noncomputable def FevalAll : (Env → ((List Go.Operand) → (Option (List AVal)))) :=
  (fun x0 x1 => @List.rec.{1, 0} _ (fun _ => Option (List AVal)) (@Option.some _ (@List.nil _)) (fun x2 _ x4 => @Option.rec.{1, 0} _ (fun x5 => (((Nat.hasNotBit (nat_lit 2) (@Option.ctorIdx AVal x5)) → (Option (List AVal))) → (Option (List AVal)))) (fun x5 => x5 (nbq (nat_lit 2) (nat_lit 0) rfl)) (fun x5 _ => FevalAll_0 x4 x5) (Faeval x0 x2) (fun _ => @Option.none _)) x1)
theorem FevalAll_eq : @FevalAll = @Go.Abs.evalAll := by
  funext p0 p1
  refine @List.rec _ (fun x => @FevalAll p0 x = @Go.Abs.evalAll p0 x) ?_ ?_ p1
  · skip
    refine Eq.trans (show (@FevalAll p0 (@List.nil _)) = (@Option.some _ (@List.nil _)) by kernel_rfl) ?_
    kernel_rfl
  · intro f0 f1 h0
    refine Eq.trans (show (@FevalAll p0 (@List.cons _ f0 f1)) = (@Option.rec.{1, 0} _ (fun x0 => (((Nat.hasNotBit (nat_lit 2) (@Option.ctorIdx AVal x0)) → (Option (List AVal))) → (Option (List AVal)))) (fun x0 => x0 (nbq (nat_lit 2) (nat_lit 0) rfl)) (fun x0 _ => FevalAll_0 (@FevalAll p0 f1) x0) (Faeval p0 f0) (fun _ => @Option.none _)) by kernel_rfl) ?_
    delta FevalAll_0
    generalize (@FevalAll p0 f1) = r0 at h0 ⊢
    subst h0
    rw [Faeval_eq]
    kernel_rfl
noncomputable def FqFunc_0 : (Go.FuncId → (Env → ((Array Go.Operand) → ((List AVal) → (Option AVal))))) :=
  (fun x0 x1 x2 x3 => @Option.rec.{1, 0} _ (fun x4 => (((Nat.hasNotBit (nat_lit 2) (@Option.ctorIdx (List AVal) x4)) → (Option AVal)) → (Option AVal))) (fun x4 => x4 (nbq (nat_lit 2) (nat_lit 0) rfl)) (fun x4 _ => @Option.some _ (AVal.func x0 x3 x4)) (FevalAll x1 (@Array.toList Go.Operand x2)) (fun _ => @Option.none _))
noncomputable def FqFunc_1 : (Go.FuncId → (Env → ((Array Go.Operand) → ((Array Go.Operand) → (Option AVal))))) :=
  (fun x0 x1 x2 x3 => @Option.rec.{1, 0} _ (fun x4 => (((Nat.hasNotBit (nat_lit 2) (@Option.ctorIdx (List AVal) x4)) → (Option AVal)) → (Option AVal))) (fun x4 => x4 (nbq (nat_lit 2) (nat_lit 0) rfl)) (fun x4 _ => FqFunc_0 x0 x1 x3 x4) (FevalAll x1 (@Array.toList Go.Operand x2)) (fun _ => @Option.none _))
noncomputable def FqFunc : (Env → (Go.Fn → ((Array Go.Operand) → ((Array Go.Operand) → (Option AVal))))) :=
  (fun x0 x1 x2 x3 => @Go.Fn.rec.{1} (fun _ => (Env → ((Array Go.Operand) → ((Array Go.Operand) → (Option AVal))))) (fun x4 x5 x6 x7 => FqFunc_1 x4 x5 x6 x7) (fun _ _ _ _ => @Option.none _) (fun _ _ _ _ _ => @Option.none _) (fun _ _ _ _ _ _ _ => @Option.none _) (fun _ _ _ _ => @Option.none _) x1 x0 x2 x3)
theorem FqFunc_eq : @FqFunc = @Go.Abs.qFunc := by
  delta FqFunc
  delta FqFunc_1
  delta FqFunc_0
  rw [FevalAll_eq]; funext p0 p1 p2 p3; cases p1 <;> kernel_rfl
noncomputable def FoptA : (Env → ((Option Go.Operand) → (Option (Option AVal)))) :=
  (fun x0 x1 => @Option.rec.{1, 0} _ (fun _ => Option (Option AVal)) (@Option.some _ (@Option.none _)) (fun x2 => @Option.rec.{1, 0} _ (fun _ => Option (Option AVal)) (@Option.none _) (fun x3 => @Option.some _ (@Option.some _ x3)) (Faeval x0 x2)) x1)
theorem FoptA_eq : @FoptA = @Go.Abs.optA := by
  delta FoptA
  rw [Faeval_eq]; kernel_rfl
noncomputable def FnatOf : (AVal → (Option Nat)) :=
  (fun x0 => @AVal.rec.{1} (fun _ => Option Nat) (fun _ => PUnit) (fun _ => @Option.none _) (fun _ x2 => @Int.rec.{1} (fun _ => Option Nat) (fun x3 => @Option.some _ x3) (fun _ => @Option.none _) x2) (fun _ => @Option.none _) (fun _ _ => @Option.none _) (@Option.none _) (fun _ _ _ _ => @Option.none _) (fun _ _ _ _ => @Option.none _) (@Option.none _) (fun _ => @Option.none _) (@Option.none _) (fun _ _ _ _ _ => @Option.none _) (fun _ => @Option.none _) (@Option.none _) (fun _ x2 _ => @Option.none _) (@Option.none _) (fun _ _ => @Option.none _) (fun _ _ => @Option.none _) PUnit.unit (fun x1 _ _ _ => PUnit.unit) x0)
theorem FnatOf_eq : @FnatOf = @Go.Abs.natOf := by
  delta FnatOf
  funext p0; cases p0 <;> kernel_rfl
noncomputable def FboundA : ((Option AVal) → (Nat → (Nat → (Option Nat)))) :=
  (fun x0 x1 x2 => @Option.rec.{1, 0} _ (fun _ => Option Nat) (@Option.some _ x1) (fun x3 => @Option.rec.{1, 0} _ (fun _ => Option Nat) (@Option.none _) (fun x4 => @Bool.rec.{1} (fun _ => Option Nat) (@Option.none _) (@Option.some _ x4) (Nat.ble x4 x2)) (FnatOf x3)) x0)
theorem FboundA_eq : @FboundA = @Go.Abs.boundA := by
  delta FboundA
  rw [FnatOf_eq]; kernel_rfl
noncomputable def FboundsA_0 : ((Option AVal) → (Nat → (Nat → (Option (Prod Nat (Prod Nat Nat)))))) :=
  (fun x0 x1 x2 => @Option.rec.{1, 0} _ (fun _ => Option (Prod Nat (Prod Nat Nat))) (@Option.none _) (fun x3 => @Option.some _ (@Prod.mk _ _ x3 (@Prod.mk _ _ x2 x1))) (FboundA x0 (nat_lit 0) x2))
noncomputable def FboundsA_1 : (Nat → ((Option AVal) → ((Option AVal) → ((Option AVal) → (Nat → (Option (Prod Nat (Prod Nat Nat)))))))) :=
  (fun x0 x1 x2 x3 x4 => @Option.rec.{1, 0} _ (fun _ => Option (Prod Nat (Prod Nat Nat))) (@Option.none _) (fun x5 => FboundsA_0 x1 x4 x5) (@Option.rec.{1, 0} _ (fun x5 => (((Nat.hasNotBit (nat_lit 1) (@Option.ctorIdx AVal x5)) → (Option Nat)) → (Option Nat))) (fun _ => @Option.rec.{1, 0} _ (fun x6 => (((Nat.hasNotBit (nat_lit 2) (@Option.ctorIdx AVal x6)) → (Option Nat)) → (Option Nat))) (fun x6 => x6 (nbq (nat_lit 2) (nat_lit 0) rfl)) (fun x6 _ => @Option.none _) x3 (fun _ => FboundA x2 x0 x4)) (fun x5 x6 => x6 (nbq (nat_lit 1) (nat_lit 1) rfl)) x2 (fun _ => FboundA x2 x0 x4)))
noncomputable def FboundsA : (Nat → (Nat → ((Option AVal) → ((Option AVal) → ((Option AVal) → (Option (Prod Nat (Prod Nat Nat)))))))) :=
  (fun x0 x1 x2 x3 x4 => @Option.rec.{1, 0} _ (fun _ => Option (Prod Nat (Prod Nat Nat))) (@Option.none _) (fun x5 => FboundsA_1 x0 x2 x3 x4 x5) (FboundA x4 x1 x1))
theorem FboundsA_eq : @FboundsA = @Go.Abs.boundsA := by
  delta FboundsA
  delta FboundsA_1
  delta FboundsA_0
  rw [FboundA_eq]; kernel_rfl
noncomputable def FsliceA_arr_0 : (Pos → (Nat → (Nat → (Nat → ((Prod Nat Nat) → (Option AVal)))))) :=
  (fun x0 x1 x2 x3 x4 => @Prod.rec.{1, 0, 0} _ _ (fun _ => Option AVal) (fun x5 x6 => @Option.some _ (AVal.slice x0 (@Bool.rec.{1} (fun _ => Nat) (Nat.add x1 (Nat.mul x3 x2)) x1 (Nat.beq x6 x3)) (Nat.sub x5 x3) (Nat.sub x6 x3))) x4)
noncomputable def FsliceA_arr_1 : ((Option AVal) → ((Option AVal) → ((Option AVal) → (Nat → (Pos → (Nat → (Nat → (Option AVal)))))))) :=
  (fun x0 x1 x2 x3 x4 x5 x6 => @Option.rec.{1, 0} _ (fun x7 => (((Nat.hasNotBit (nat_lit 2) (@Option.ctorIdx (Prod Nat (Prod Nat Nat)) x7)) → (Option AVal)) → (Option AVal))) (fun x7 => x7 (nbq (nat_lit 2) (nat_lit 0) rfl)) (fun x7 _ => @Prod.rec.{1, 0, 0} _ _ (fun _ => Option AVal) (fun x9 x10 => FsliceA_arr_0 x4 x5 x6 x9 x10) x7) (FboundsA x3 x3 x0 x1 x2) (fun _ => @Option.none _))
noncomputable def FsliceA_arr : (AProg → ((Option AVal) → ((Option AVal) → ((Option AVal) → (Nat → (Go.TypeId → (Pos → (Nat → (Option AVal))))))))) :=
  (fun x0 x1 x2 x3 x4 x5 x6 x7 => @Option.rec.{1, 0} _ (fun x8 => (((Nat.hasNotBit (nat_lit 2) (@Option.ctorIdx Nat x8)) → (Option AVal)) → (Option AVal))) (fun x8 => x8 (nbq (nat_lit 2) (nat_lit 0) rfl)) (fun x8 _ => FsliceA_arr_1 x1 x2 x3 x4 x6 x7 x8) (FsizeA x0 x5) (fun _ => @Option.none _))
theorem FsliceA_arr_eq : @FsliceA_arr = @Go.Abs.sliceA.arr := by
  delta FsliceA_arr
  delta FsliceA_arr_1
  delta FsliceA_arr_0
  rw [FboundsA_eq, FsizeA_eq]; kernel_rfl
noncomputable def FsliceA_0 : ((List Nat) → (Nat → ((Prod Nat Nat) → (Option AVal)))) :=
  (fun x0 x1 x2 => @Prod.rec.{1, 0, 0} _ _ (fun _ => Option AVal) (fun x3 _ => @Option.rec.{1, 0} _ (fun _ => Option AVal) (@Option.none _) (fun x5 => @Option.some _ (AVal.str x5)) (FtakeN Nat (Nat.sub x3 x1) (FdropN Nat x1 x0))) x2)
noncomputable def FsliceA_1 : ((Option AVal) → ((Option AVal) → ((List Nat) → (Option AVal)))) :=
  (fun x0 x1 x2 => @Option.rec.{1, 0} _ (fun _ => Option AVal) (@Option.none _) (fun x3 => @Prod.rec.{1, 0, 0} _ _ (fun _ => Option AVal) (fun x4 x5 => FsliceA_0 x2 x4 x5) x3) (FboundsA (FList_length Nat x2) (FList_length Nat x2) x0 x1 (@Option.none _)))
noncomputable def FsliceA_2 : (AVal → ((Option AVal) → ((Option AVal) → ((Option AVal) → (Option AVal))))) :=
  (fun x0 x1 x2 x3 => @AVal.rec.{1} (fun x4 => (((Nat.hasNotBit (nat_lit 4) (AVal.ctorIdx x4)) → (Option AVal)) → (Option AVal))) (fun _ => PUnit) (fun x4 x5 => x5 (nbq (nat_lit 4) (nat_lit 0) rfl)) (fun x4 x5 x6 => x6 (nbq (nat_lit 4) (nat_lit 1) rfl)) (fun x4 _ => @Option.rec.{1, 0} _ (fun _ => Option AVal) (FsliceA_1 x1 x2 x4) (fun _ => @Option.none _) x3) (fun x4 x5 x6 => x6 (nbq (nat_lit 4) (nat_lit 3) rfl)) (fun x4 => x4 (nbq (nat_lit 4) (nat_lit 4) rfl)) (fun x4 x5 x6 x7 x8 => x8 (nbq (nat_lit 4) (nat_lit 5) rfl)) (fun x4 x5 x6 x7 x8 => x8 (nbq (nat_lit 4) (nat_lit 6) rfl)) (fun x4 => x4 (nbq (nat_lit 4) (nat_lit 7) rfl)) (fun x4 x5 => x5 (nbq (nat_lit 4) (nat_lit 8) rfl)) (fun x4 => x4 (nbq (nat_lit 4) (nat_lit 9) rfl)) (fun x4 x5 x6 _ _ x9 => x9 (nbq (nat_lit 4) (nat_lit 10) rfl)) (fun x4 x5 => x5 (nbq (nat_lit 4) (nat_lit 11) rfl)) (fun x4 => x4 (nbq (nat_lit 4) (nat_lit 12) rfl)) (fun x4 x5 _ x7 => x7 (nbq (nat_lit 4) (nat_lit 13) rfl)) (fun x4 => x4 (nbq (nat_lit 4) (nat_lit 14) rfl)) (fun x4 _ x6 => x6 (nbq (nat_lit 4) (nat_lit 15) rfl)) (fun x4 _ x6 => x6 (nbq (nat_lit 4) (nat_lit 16) rfl)) PUnit.unit (fun x4 _ _ _ => PUnit.unit) x0 (fun _ => @Option.none _))
noncomputable def FsliceA_3 : (AProg → ((Option AVal) → ((Option AVal) → ((Option AVal) → (Pos → (Nat → (Go.TypeDesc → (Option AVal)))))))) :=
  (fun x0 x1 x2 x3 x4 x5 x6 => @Go.TypeDesc.rec.{1} (fun x7 => (((Nat.hasNotBit (nat_lit 512) (Go.TypeDesc.ctorIdx x7)) → (Option AVal)) → (Option AVal))) (fun x7 => x7 (nbq (nat_lit 512) (nat_lit 0) rfl)) (fun x7 => x7 (nbq (nat_lit 512) (nat_lit 1) rfl)) (fun x7 x8 => x8 (nbq (nat_lit 512) (nat_lit 2) rfl)) (fun x7 x8 => x8 (nbq (nat_lit 512) (nat_lit 3) rfl)) (fun x7 x8 => x8 (nbq (nat_lit 512) (nat_lit 4) rfl)) (fun x7 => x7 (nbq (nat_lit 512) (nat_lit 5) rfl)) (fun x7 => x7 (nbq (nat_lit 512) (nat_lit 6) rfl)) (fun x7 x8 => x8 (nbq (nat_lit 512) (nat_lit 7) rfl)) (fun x7 x8 => x8 (nbq (nat_lit 512) (nat_lit 8) rfl)) (fun x7 x8 _ => FsliceA_arr x0 x1 x2 x3 x7 x8 x4 x5) (fun x7 x8 x9 => x9 (nbq (nat_lit 512) (nat_lit 10) rfl)) (fun x7 x8 x9 => x9 (nbq (nat_lit 512) (nat_lit 11) rfl)) (fun x7 x8 => x8 (nbq (nat_lit 512) (nat_lit 12) rfl)) (fun x7 x8 x9 x10 => x10 (nbq (nat_lit 512) (nat_lit 13) rfl)) (fun x7 x8 => x8 (nbq (nat_lit 512) (nat_lit 14) rfl)) (fun x7 x8 => x8 (nbq (nat_lit 512) (nat_lit 15) rfl)) (fun x7 x8 x9 => x9 (nbq (nat_lit 512) (nat_lit 16) rfl)) x6 (fun _ => @Option.none _))
noncomputable def FsliceA_4 : (AProg → ((Option AVal) → ((Option AVal) → ((Option AVal) → (Go.TypeId → (Pos → (Nat → (Option AVal)))))))) :=
  (fun x0 x1 x2 x3 x4 x5 x6 => @Option.rec.{1, 0} _ (fun x7 => (((Nat.hasNotBit (nat_lit 2) (@Option.ctorIdx Go.TypeDesc x7)) → (Option AVal)) → (Option AVal))) (fun x7 => x7 (nbq (nat_lit 2) (nat_lit 0) rfl)) (fun x7 _ => FsliceA_3 x0 x1 x2 x3 x5 x6 x7) (Fund x0 x4) (fun _ => @Option.none _))
noncomputable def FsliceA_5 : (AProg → (AVal → ((Option AVal) → ((Option AVal) → ((Option AVal) → (Go.TypeId → (Option AVal))))))) :=
  (fun x0 x1 x2 x3 x4 x5 => @AVal.rec.{1} (fun x6 => (((Nat.hasNotBit (nat_lit 8) (AVal.ctorIdx x6)) → (Option AVal)) → (Option AVal))) (fun _ => PUnit) (fun x6 x7 => x7 (nbq (nat_lit 8) (nat_lit 0) rfl)) (fun x6 x7 x8 => x8 (nbq (nat_lit 8) (nat_lit 1) rfl)) (fun x6 x7 => x7 (nbq (nat_lit 8) (nat_lit 2) rfl)) (fun x6 x7 _ => FsliceA_4 x0 x2 x3 x4 x5 x6 x7) (fun x6 => x6 (nbq (nat_lit 8) (nat_lit 4) rfl)) (fun x6 x7 x8 x9 x10 => x10 (nbq (nat_lit 8) (nat_lit 5) rfl)) (fun x6 x7 x8 x9 x10 => x10 (nbq (nat_lit 8) (nat_lit 6) rfl)) (fun x6 => x6 (nbq (nat_lit 8) (nat_lit 7) rfl)) (fun x6 x7 => x7 (nbq (nat_lit 8) (nat_lit 8) rfl)) (fun x6 => x6 (nbq (nat_lit 8) (nat_lit 9) rfl)) (fun x6 x7 x8 _ _ x11 => x11 (nbq (nat_lit 8) (nat_lit 10) rfl)) (fun x6 x7 => x7 (nbq (nat_lit 8) (nat_lit 11) rfl)) (fun x6 => x6 (nbq (nat_lit 8) (nat_lit 12) rfl)) (fun x6 x7 _ x9 => x9 (nbq (nat_lit 8) (nat_lit 13) rfl)) (fun x6 => x6 (nbq (nat_lit 8) (nat_lit 14) rfl)) (fun x6 _ x8 => x8 (nbq (nat_lit 8) (nat_lit 15) rfl)) (fun x6 _ x8 => x8 (nbq (nat_lit 8) (nat_lit 16) rfl)) PUnit.unit (fun x6 _ _ _ => PUnit.unit) x1 (fun _ => @Option.none _))
noncomputable def FsliceA_6 : (Pos → (Nat → (Nat → (Nat → ((Prod Nat Nat) → (Option AVal)))))) :=
  (fun x0 x1 x2 x3 x4 => @Prod.rec.{1, 0, 0} _ _ (fun _ => Option AVal) (fun x5 x6 => @Option.some _ (AVal.slice x0 (@Bool.rec.{1} (fun _ => Nat) (Nat.add x1 (Nat.mul x3 x2)) x1 (Nat.beq x6 x3)) (Nat.sub x5 x3) (Nat.sub x6 x3))) x4)
noncomputable def FsliceA_7 : ((Option AVal) → ((Option AVal) → ((Option AVal) → (Pos → (Nat → (Nat → (Nat → (Nat → (Option AVal))))))))) :=
  (fun x0 x1 x2 x3 x4 x5 x6 x7 => @Option.rec.{1, 0} _ (fun x8 => (((Nat.hasNotBit (nat_lit 2) (@Option.ctorIdx (Prod Nat (Prod Nat Nat)) x8)) → (Option AVal)) → (Option AVal))) (fun x8 => x8 (nbq (nat_lit 2) (nat_lit 0) rfl)) (fun x8 _ => @Prod.rec.{1, 0, 0} _ _ (fun _ => Option AVal) (fun x10 x11 => FsliceA_6 x3 x4 x7 x10 x11) x8) (FboundsA x5 x6 x0 x1 x2) (fun _ => @Option.none _))
noncomputable def FsliceA_8 : (AProg → ((Option AVal) → ((Option AVal) → ((Option AVal) → (Go.TypeId → (Pos → (Nat → (Nat → (Nat → (Option AVal)))))))))) :=
  (fun x0 x1 x2 x3 x4 x5 x6 x7 x8 => @Option.rec.{1, 0} _ (fun x9 => (((Nat.hasNotBit (nat_lit 2) (@Option.ctorIdx Nat x9)) → (Option AVal)) → (Option AVal))) (fun x9 => x9 (nbq (nat_lit 2) (nat_lit 0) rfl)) (fun x9 _ => FsliceA_7 x1 x2 x3 x5 x6 x7 x8 x9) (FsizeA x0 x4) (fun _ => @Option.none _))
noncomputable def FsliceA_9 : (Pos → (Nat → (Nat → (Nat → (Nat → (Nat → (Nat → (Option AVal)))))))) :=
  (fun x0 x1 x2 x3 x4 x5 x6 => @Bool.rec.{1} (fun _ => Option AVal) (@Option.some _ (AVal.slice x0 (@Bool.rec.{1} (fun _ => Nat) (Nat.add x1 (Nat.mul x4 x3)) x1 (Nat.beq x6 x4)) (Nat.sub x5 x4) (Nat.sub x6 x4))) (@Option.none _) (Nat.beq x2 (nat_lit 0)))
noncomputable def FsliceA_10 : ((Option AVal) → (Pos → (Nat → (Nat → (Nat → (Nat → (Nat → (Nat → (Nat → (Option AVal)))))))))) :=
  (fun x0 x1 x2 x3 x4 x5 x6 x7 x8 => @Option.rec.{1, 0} _ (fun _ => Option AVal) (@Option.some _ (AVal.sliceO x1 (Nat.add x2 (Nat.mul x6 x5)) (Nat.sub x7 x6) x4)) (fun _ => FsliceA_9 x1 x2 x3 x5 x6 x7 x8) x0)
noncomputable def FsliceA_11 : ((Option AVal) → (Pos → (Nat → (Nat → (Nat → (Nat → (Nat → ((Prod Nat Nat) → (Option AVal))))))))) :=
  (fun x0 x1 x2 x3 x4 x5 x6 x7 => @Prod.rec.{1, 0, 0} _ _ (fun _ => Option AVal) (fun x8 x9 => @Bool.rec.{1} (fun _ => Option AVal) (@Option.none _) (FsliceA_10 x0 x1 x2 x3 x4 x5 x6 x8 x9) (Nat.beq x5 x4)) x7)
noncomputable def FsliceA_12 : ((Option AVal) → ((Option AVal) → ((Option AVal) → (Pos → (Nat → (Nat → (Nat → (Nat → (Option AVal))))))))) :=
  (fun x0 x1 x2 x3 x4 x5 x6 x7 => @Option.rec.{1, 0} _ (fun x8 => (((Nat.hasNotBit (nat_lit 2) (@Option.ctorIdx (Prod Nat (Prod Nat Nat)) x8)) → (Option AVal)) → (Option AVal))) (fun x8 => x8 (nbq (nat_lit 2) (nat_lit 0) rfl)) (fun x8 _ => @Prod.rec.{1, 0, 0} _ _ (fun _ => Option AVal) (fun x10 x11 => FsliceA_11 x2 x3 x4 x5 x6 x7 x10 x11) x8) (FboundsA x5 x5 x0 x1 x2) (fun _ => @Option.none _))
noncomputable def FsliceA_13 : (AProg → ((Option AVal) → ((Option AVal) → ((Option AVal) → (Go.TypeId → (Pos → (Nat → (Nat → (Nat → (Option AVal)))))))))) :=
  (fun x0 x1 x2 x3 x4 x5 x6 x7 x8 => @Option.rec.{1, 0} _ (fun x9 => (((Nat.hasNotBit (nat_lit 2) (@Option.ctorIdx Nat x9)) → (Option AVal)) → (Option AVal))) (fun x9 => x9 (nbq (nat_lit 2) (nat_lit 0) rfl)) (fun x9 _ => FsliceA_12 x1 x2 x3 x5 x6 x7 x8 x9) (FsizeA x0 x4) (fun _ => @Option.none _))
noncomputable def FsliceA_14 : ((Option AVal) → ((Option AVal) → ((Option AVal) → (Option AVal)))) :=
  (fun x0 x1 x2 => @Option.rec.{1, 0} _ (fun x3 => (((Nat.hasNotBit (nat_lit 2) (@Option.ctorIdx (Prod Nat (Prod Nat Nat)) x3)) → (Option AVal)) → (Option AVal))) (fun x3 => x3 (nbq (nat_lit 2) (nat_lit 0) rfl)) (fun x3 _ => @Option.some _ AVal.nilSlice) (FboundsA (nat_lit 0) (nat_lit 0) x0 x1 x2) (fun _ => @Option.none _))
noncomputable def FsliceA_15 : (AProg → (AVal → ((Option AVal) → ((Option AVal) → ((Option AVal) → (Go.TypeId → (Option AVal))))))) :=
  (fun x0 x1 x2 x3 x4 x5 => @AVal.rec.{1} (fun x6 => (((Nat.hasNotBit (nat_lit 224) (AVal.ctorIdx x6)) → (Option AVal)) → (Option AVal))) (fun _ => PUnit) (fun x6 x7 => x7 (nbq (nat_lit 224) (nat_lit 0) rfl)) (fun x6 x7 x8 => x8 (nbq (nat_lit 224) (nat_lit 1) rfl)) (fun x6 x7 => x7 (nbq (nat_lit 224) (nat_lit 2) rfl)) (fun x6 x7 x8 => x8 (nbq (nat_lit 224) (nat_lit 3) rfl)) (fun x6 => x6 (nbq (nat_lit 224) (nat_lit 4) rfl)) (fun x6 x7 x8 x9 _ => FsliceA_8 x0 x2 x3 x4 x5 x6 x7 x8 x9) (fun x6 x7 x8 x9 _ => FsliceA_13 x0 x2 x3 x4 x5 x6 x7 x8 x9) (fun _ => @Option.rec.{1, 0} _ (fun x7 => (((Nat.hasNotBit (nat_lit 2) (@Option.ctorIdx Nat x7)) → (Option AVal)) → (Option AVal))) (fun x7 => x7 (nbq (nat_lit 2) (nat_lit 0) rfl)) (fun x7 _ => FsliceA_14 x2 x3 x4) (FsizeA x0 x5) (fun _ => @Option.none _)) (fun x6 x7 => x7 (nbq (nat_lit 224) (nat_lit 8) rfl)) (fun x6 => x6 (nbq (nat_lit 224) (nat_lit 9) rfl)) (fun x6 x7 x8 _ _ x11 => x11 (nbq (nat_lit 224) (nat_lit 10) rfl)) (fun x6 x7 => x7 (nbq (nat_lit 224) (nat_lit 11) rfl)) (fun x6 => x6 (nbq (nat_lit 224) (nat_lit 12) rfl)) (fun x6 x7 _ x9 => x9 (nbq (nat_lit 224) (nat_lit 13) rfl)) (fun x6 => x6 (nbq (nat_lit 224) (nat_lit 14) rfl)) (fun x6 _ x8 => x8 (nbq (nat_lit 224) (nat_lit 15) rfl)) (fun x6 _ x8 => x8 (nbq (nat_lit 224) (nat_lit 16) rfl)) PUnit.unit (fun x6 _ _ _ => PUnit.unit) x1 (fun _ => @Option.none _))
noncomputable def FsliceA_16 : (AProg → (AVal → ((Option AVal) → ((Option AVal) → ((Option AVal) → (Nat → (Go.TypeId → (Option AVal)))))))) :=
  (fun x0 x1 x2 x3 x4 x5 x6 => @AVal.rec.{1} (fun x7 => (((Nat.hasNotBit (nat_lit 8) (AVal.ctorIdx x7)) → (Option AVal)) → (Option AVal))) (fun _ => PUnit) (fun x7 x8 => x8 (nbq (nat_lit 8) (nat_lit 0) rfl)) (fun x7 x8 x9 => x9 (nbq (nat_lit 8) (nat_lit 1) rfl)) (fun x7 x8 => x8 (nbq (nat_lit 8) (nat_lit 2) rfl)) (fun x7 x8 _ => FsliceA_arr x0 x2 x3 x4 x5 x6 x7 x8) (fun x7 => x7 (nbq (nat_lit 8) (nat_lit 4) rfl)) (fun x7 x8 x9 x10 x11 => x11 (nbq (nat_lit 8) (nat_lit 5) rfl)) (fun x7 x8 x9 x10 x11 => x11 (nbq (nat_lit 8) (nat_lit 6) rfl)) (fun x7 => x7 (nbq (nat_lit 8) (nat_lit 7) rfl)) (fun x7 x8 => x8 (nbq (nat_lit 8) (nat_lit 8) rfl)) (fun x7 => x7 (nbq (nat_lit 8) (nat_lit 9) rfl)) (fun x7 x8 x9 _ _ x12 => x12 (nbq (nat_lit 8) (nat_lit 10) rfl)) (fun x7 x8 => x8 (nbq (nat_lit 8) (nat_lit 11) rfl)) (fun x7 => x7 (nbq (nat_lit 8) (nat_lit 12) rfl)) (fun x7 x8 _ x10 => x10 (nbq (nat_lit 8) (nat_lit 13) rfl)) (fun x7 => x7 (nbq (nat_lit 8) (nat_lit 14) rfl)) (fun x7 _ x9 => x9 (nbq (nat_lit 8) (nat_lit 15) rfl)) (fun x7 _ x9 => x9 (nbq (nat_lit 8) (nat_lit 16) rfl)) PUnit.unit (fun x7 _ _ _ => PUnit.unit) x1 (fun _ => @Option.none _))
noncomputable def FsliceA_17 : (AProg → (AVal → ((Option AVal) → ((Option AVal) → ((Option AVal) → (Go.TypeDesc → (Option AVal))))))) :=
  (fun x0 x1 x2 x3 x4 x5 => @Go.TypeDesc.rec.{1} (fun x6 => (((Nat.hasNotBit (nat_lit 928) (Go.TypeDesc.ctorIdx x6)) → (Option AVal)) → (Option AVal))) (fun x6 => x6 (nbq (nat_lit 928) (nat_lit 0) rfl)) (fun x6 => x6 (nbq (nat_lit 928) (nat_lit 1) rfl)) (fun x6 x7 => x7 (nbq (nat_lit 928) (nat_lit 2) rfl)) (fun x6 x7 => x7 (nbq (nat_lit 928) (nat_lit 3) rfl)) (fun x6 x7 => x7 (nbq (nat_lit 928) (nat_lit 4) rfl)) (fun _ => FsliceA_2 x1 x2 x3 x4) (fun x6 => x6 (nbq (nat_lit 928) (nat_lit 6) rfl)) (fun x6 _ => FsliceA_5 x0 x1 x2 x3 x4 x6) (fun x6 _ => FsliceA_15 x0 x1 x2 x3 x4 x6) (fun x6 x7 _ => FsliceA_16 x0 x1 x2 x3 x4 x6 x7) (fun x6 x7 x8 => x8 (nbq (nat_lit 928) (nat_lit 10) rfl)) (fun x6 x7 x8 => x8 (nbq (nat_lit 928) (nat_lit 11) rfl)) (fun x6 x7 => x7 (nbq (nat_lit 928) (nat_lit 12) rfl)) (fun x6 x7 x8 x9 => x9 (nbq (nat_lit 928) (nat_lit 13) rfl)) (fun x6 x7 => x7 (nbq (nat_lit 928) (nat_lit 14) rfl)) (fun x6 x7 => x7 (nbq (nat_lit 928) (nat_lit 15) rfl)) (fun x6 x7 x8 => x8 (nbq (nat_lit 928) (nat_lit 16) rfl)) x5 (fun _ => @Option.none _))
noncomputable def FsliceA : (AProg → (Go.TypeId → (AVal → ((Option AVal) → ((Option AVal) → ((Option AVal) → (Option AVal))))))) :=
  (fun x0 x1 x2 x3 x4 x5 => @Option.rec.{1, 0} _ (fun x6 => (((Nat.hasNotBit (nat_lit 2) (@Option.ctorIdx Go.TypeDesc x6)) → (Option AVal)) → (Option AVal))) (fun x6 => x6 (nbq (nat_lit 2) (nat_lit 0) rfl)) (fun x6 _ => FsliceA_17 x0 x2 x3 x4 x5 x6) (Fund x0 x1) (fun _ => @Option.none _))
theorem FsliceA_eq : @FsliceA = @Go.Abs.sliceA := by
  delta FsliceA
  delta FsliceA_17
  delta FsliceA_16
  delta FsliceA_15
  delta FsliceA_14
  delta FsliceA_13
  delta FsliceA_12
  delta FsliceA_11
  delta FsliceA_10
  delta FsliceA_9
  delta FsliceA_8
  delta FsliceA_7
  delta FsliceA_6
  delta FsliceA_5
  delta FsliceA_4
  delta FsliceA_3
  delta FsliceA_2
  delta FsliceA_1
  delta FsliceA_0
  rw [FtakeN_eq, FdropN_eq, FboundsA_eq, FList_length_eq, FsliceA_arr_eq, Fund_eq, FsizeA_eq]; kernel_rfl
noncomputable def FqSlice_0 : (AProg → (Env → (Go.TypeId → ((Option Go.Operand) → (AVal → ((Option AVal) → ((Option AVal) → (Option AVal)))))))) :=
  (fun x0 x1 x2 x3 x4 x5 x6 => @Option.rec.{1, 0} _ (fun x7 => (((Nat.hasNotBit (nat_lit 2) (@Option.ctorIdx (Option AVal) x7)) → (Option AVal)) → (Option AVal))) (fun x7 => x7 (nbq (nat_lit 2) (nat_lit 0) rfl)) (fun x7 _ => FsliceA x0 x2 x4 x5 x6 x7) (FoptA x1 x3) (fun _ => @Option.none _))
noncomputable def FqSlice_1 : (AProg → (Env → (Go.TypeId → ((Option Go.Operand) → ((Option Go.Operand) → (AVal → ((Option AVal) → (Option AVal)))))))) :=
  (fun x0 x1 x2 x3 x4 x5 x6 => @Option.rec.{1, 0} _ (fun x7 => (((Nat.hasNotBit (nat_lit 2) (@Option.ctorIdx (Option AVal) x7)) → (Option AVal)) → (Option AVal))) (fun x7 => x7 (nbq (nat_lit 2) (nat_lit 0) rfl)) (fun x7 _ => FqSlice_0 x0 x1 x2 x4 x5 x6 x7) (FoptA x1 x3) (fun _ => @Option.none _))
noncomputable def FqSlice_2 : (AProg → (Env → (Go.TypeId → ((Option Go.Operand) → ((Option Go.Operand) → ((Option Go.Operand) → (AVal → (Option AVal)))))))) :=
  (fun x0 x1 x2 x3 x4 x5 x6 => @Option.rec.{1, 0} _ (fun x7 => (((Nat.hasNotBit (nat_lit 2) (@Option.ctorIdx (Option AVal) x7)) → (Option AVal)) → (Option AVal))) (fun x7 => x7 (nbq (nat_lit 2) (nat_lit 0) rfl)) (fun x7 _ => FqSlice_1 x0 x1 x2 x4 x5 x6 x7) (FoptA x1 x3) (fun _ => @Option.none _))
noncomputable def FqSlice : (AProg → (Env → (Go.TypeId → (Go.Operand → ((Option Go.Operand) → ((Option Go.Operand) → ((Option Go.Operand) → (Option AVal)))))))) :=
  (fun x0 x1 x2 x3 x4 x5 x6 => @Option.rec.{1, 0} _ (fun _ => Option AVal) (@Option.none _) (fun x7 => FqSlice_2 x0 x1 x2 x4 x5 x6 x7) (Faeval x1 x3))
theorem FqSlice_eq : @FqSlice = @Go.Abs.qSlice := by
  delta FqSlice
  delta FqSlice_2
  delta FqSlice_1
  delta FqSlice_0
  rw [FsliceA_eq, FoptA_eq, Faeval_eq]; kernel_rfl
noncomputable def FfieldsA_0 : (Go.TypeDesc → (Option (List Go.Field))) :=
  (fun x0 => @Go.TypeDesc.rec.{1} (fun x1 => (((Nat.hasNotBit (nat_lit 4096) (Go.TypeDesc.ctorIdx x1)) → (Option (List Go.Field))) → (Option (List Go.Field)))) (fun x1 => x1 (nbq (nat_lit 4096) (nat_lit 0) rfl)) (fun x1 => x1 (nbq (nat_lit 4096) (nat_lit 1) rfl)) (fun x1 x2 => x2 (nbq (nat_lit 4096) (nat_lit 2) rfl)) (fun x1 x2 => x2 (nbq (nat_lit 4096) (nat_lit 3) rfl)) (fun x1 x2 => x2 (nbq (nat_lit 4096) (nat_lit 4) rfl)) (fun x1 => x1 (nbq (nat_lit 4096) (nat_lit 5) rfl)) (fun x1 => x1 (nbq (nat_lit 4096) (nat_lit 6) rfl)) (fun x1 x2 => x2 (nbq (nat_lit 4096) (nat_lit 7) rfl)) (fun x1 x2 => x2 (nbq (nat_lit 4096) (nat_lit 8) rfl)) (fun x1 x2 x3 => x3 (nbq (nat_lit 4096) (nat_lit 9) rfl)) (fun x1 x2 x3 => x3 (nbq (nat_lit 4096) (nat_lit 10) rfl)) (fun x1 x2 x3 => x3 (nbq (nat_lit 4096) (nat_lit 11) rfl)) (fun x1 _ => @Option.some _ (@Array.toList Go.Field x1)) (fun x1 x2 x3 x4 => x4 (nbq (nat_lit 4096) (nat_lit 13) rfl)) (fun x1 x2 => x2 (nbq (nat_lit 4096) (nat_lit 14) rfl)) (fun x1 x2 => x2 (nbq (nat_lit 4096) (nat_lit 15) rfl)) (fun x1 x2 x3 => x3 (nbq (nat_lit 4096) (nat_lit 16) rfl)) x0 (fun _ => @Option.none _))
noncomputable def FfieldsA : (AProg → (Go.TypeId → (Option (List Go.Field)))) :=
  (fun x0 x1 => @Option.rec.{1, 0} _ (fun x2 => (((Nat.hasNotBit (nat_lit 2) (@Option.ctorIdx Go.TypeDesc x2)) → (Option (List Go.Field))) → (Option (List Go.Field)))) (fun x2 => x2 (nbq (nat_lit 2) (nat_lit 0) rfl)) (fun x2 _ => FfieldsA_0 x2) (Fund x0 x1) (fun _ => @Option.none _))
theorem FfieldsA_eq : @FfieldsA = @Go.Abs.fieldsA := by
  delta FfieldsA
  delta FfieldsA_0
  rw [Fund_eq]; kernel_rfl
noncomputable def FfieldAtA_0 : (Pos → (Nat → (Go.Field → (Nat → (Option AVal))))) :=
  (fun x0 x1 x2 x3 => @Nat.rec.{1} (fun x4 => (((Nat.hasNotBit (nat_lit 2) (Nat.ctorIdx x4)) → (Option AVal)) → (Option AVal))) (fun x4 => x4 (nbq (nat_lit 2) (nat_lit 0) rfl)) (fun x4 _ _ => @Option.some _ (AVal.ptr x0 (Nat.add x1 (Go.Field.offset x2)))) x3 (fun _ => @Option.none _))
noncomputable def FfieldAtA_1 : (AProg → (Pos → (Nat → (Go.Field → (Option AVal))))) :=
  (fun x0 x1 x2 x3 => @Option.rec.{1, 0} _ (fun x4 => (((Nat.hasNotBit (nat_lit 2) (@Option.ctorIdx Nat x4)) → (Option AVal)) → (Option AVal))) (fun x4 => x4 (nbq (nat_lit 2) (nat_lit 0) rfl)) (fun x4 _ => FfieldAtA_0 x1 x2 x3 x4) (FsizeA x0 (Go.Field.type x3)) (fun _ => @Option.none _))
noncomputable def FfieldAtA_2 : (AProg → (AVal → (Nat → ((List Go.Field) → (Option AVal))))) :=
  (fun x0 x1 x2 x3 => @AVal.rec.{1} (fun x4 => (((Nat.hasNotBit (nat_lit 8) (AVal.ctorIdx x4)) → (Option AVal)) → (Option AVal))) (fun _ => PUnit) (fun x4 x5 => x5 (nbq (nat_lit 8) (nat_lit 0) rfl)) (fun x4 x5 x6 => x6 (nbq (nat_lit 8) (nat_lit 1) rfl)) (fun x4 x5 => x5 (nbq (nat_lit 8) (nat_lit 2) rfl)) (fun x4 x5 _ => @Option.rec.{1, 0} _ (fun _ => Option AVal) (@Option.none _) (fun x7 => FfieldAtA_1 x0 x4 x5 x7) (Fnth Go.Field x2 x3)) (fun x4 => x4 (nbq (nat_lit 8) (nat_lit 4) rfl)) (fun x4 x5 x6 x7 x8 => x8 (nbq (nat_lit 8) (nat_lit 5) rfl)) (fun x4 x5 x6 x7 x8 => x8 (nbq (nat_lit 8) (nat_lit 6) rfl)) (fun x4 => x4 (nbq (nat_lit 8) (nat_lit 7) rfl)) (fun x4 x5 => x5 (nbq (nat_lit 8) (nat_lit 8) rfl)) (fun x4 => x4 (nbq (nat_lit 8) (nat_lit 9) rfl)) (fun x4 x5 x6 _ _ x9 => x9 (nbq (nat_lit 8) (nat_lit 10) rfl)) (fun x4 x5 => x5 (nbq (nat_lit 8) (nat_lit 11) rfl)) (fun x4 => x4 (nbq (nat_lit 8) (nat_lit 12) rfl)) (fun x4 x5 _ x7 => x7 (nbq (nat_lit 8) (nat_lit 13) rfl)) (fun x4 => x4 (nbq (nat_lit 8) (nat_lit 14) rfl)) (fun x4 _ x6 => x6 (nbq (nat_lit 8) (nat_lit 15) rfl)) (fun x4 _ x6 => x6 (nbq (nat_lit 8) (nat_lit 16) rfl)) PUnit.unit (fun x4 _ _ _ => PUnit.unit) x1 (fun _ => @Option.none _))
noncomputable def FfieldAtA : (AProg → (Go.TypeId → (AVal → (Nat → (Option AVal))))) :=
  (fun x0 x1 x2 x3 => @Option.rec.{1, 0} _ (fun x4 => (((Nat.hasNotBit (nat_lit 2) (@Option.ctorIdx (List Go.Field) x4)) → (Option AVal)) → (Option AVal))) (fun x4 => x4 (nbq (nat_lit 2) (nat_lit 0) rfl)) (fun x4 _ => FfieldAtA_2 x0 x2 x3 x4) (FfieldsA x0 x1) (fun _ => @Option.none _))
theorem FfieldAtA_eq : @FfieldAtA = @Go.Abs.fieldAtA := by
  delta FfieldAtA
  delta FfieldAtA_2
  delta FfieldAtA_1
  delta FfieldAtA_0
  rw [FsizeA_eq, Fnth_eq, FfieldsA_eq]; kernel_rfl
noncomputable def FqFieldAddr : (AProg → (Env → (Go.TypeId → (Go.Operand → (Nat → (Option AVal)))))) :=
  (fun x0 x1 x2 x3 x4 => @Option.rec.{1, 0} _ (fun _ => Option AVal) (@Option.none _) (fun x5 => FfieldAtA x0 x2 x5 x4) (Faeval x1 x3))
theorem FqFieldAddr_eq : @FqFieldAddr = @Go.Abs.qFieldAddr := by
  delta FqFieldAddr
  rw [FfieldAtA_eq, Faeval_eq]; kernel_rfl
noncomputable def FfieldA_0 : (AProg → (AVal → (Nat → ((List Go.Field) → (Option AVal))))) :=
  (fun x0 x1 x2 x3 => @AVal.rec.{1} (fun x4 => (((Nat.hasNotBit (nat_lit 32768) (AVal.ctorIdx x4)) → (Option AVal)) → (Option AVal))) (fun _ => PUnit) (fun x4 x5 => x5 (nbq (nat_lit 32768) (nat_lit 0) rfl)) (fun x4 x5 x6 => x6 (nbq (nat_lit 32768) (nat_lit 1) rfl)) (fun x4 x5 => x5 (nbq (nat_lit 32768) (nat_lit 2) rfl)) (fun x4 x5 x6 => x6 (nbq (nat_lit 32768) (nat_lit 3) rfl)) (fun x4 => x4 (nbq (nat_lit 32768) (nat_lit 4) rfl)) (fun x4 x5 x6 x7 x8 => x8 (nbq (nat_lit 32768) (nat_lit 5) rfl)) (fun x4 x5 x6 x7 x8 => x8 (nbq (nat_lit 32768) (nat_lit 6) rfl)) (fun x4 => x4 (nbq (nat_lit 32768) (nat_lit 7) rfl)) (fun x4 x5 => x5 (nbq (nat_lit 32768) (nat_lit 8) rfl)) (fun x4 => x4 (nbq (nat_lit 32768) (nat_lit 9) rfl)) (fun x4 x5 x6 _ _ x9 => x9 (nbq (nat_lit 32768) (nat_lit 10) rfl)) (fun x4 x5 => x5 (nbq (nat_lit 32768) (nat_lit 11) rfl)) (fun x4 => x4 (nbq (nat_lit 32768) (nat_lit 12) rfl)) (fun x4 x5 _ x7 => x7 (nbq (nat_lit 32768) (nat_lit 13) rfl)) (fun x4 => x4 (nbq (nat_lit 32768) (nat_lit 14) rfl)) (fun x4 _ _ => @Option.rec.{1, 0} _ (fun _ => Option AVal) (@Option.none _) (fun x7 => FpartA x0 (Go.Field.type x7) x4 (Go.Field.offset x7)) (Fnth Go.Field x2 x3)) (fun x4 _ x6 => x6 (nbq (nat_lit 32768) (nat_lit 16) rfl)) PUnit.unit (fun x4 _ _ _ => PUnit.unit) x1 (fun _ => @Option.none _))
noncomputable def FfieldA : (AProg → (Go.TypeId → (AVal → (Nat → (Option AVal))))) :=
  (fun x0 x1 x2 x3 => @Option.rec.{1, 0} _ (fun x4 => (((Nat.hasNotBit (nat_lit 2) (@Option.ctorIdx (List Go.Field) x4)) → (Option AVal)) → (Option AVal))) (fun x4 => x4 (nbq (nat_lit 2) (nat_lit 0) rfl)) (fun x4 _ => FfieldA_0 x0 x2 x3 x4) (FfieldsA x0 x1) (fun _ => @Option.none _))
theorem FfieldA_eq : @FfieldA = @Go.Abs.fieldA := by
  delta FfieldA
  delta FfieldA_0
  rw [FpartA_eq, Fnth_eq, FfieldsA_eq]; kernel_rfl
noncomputable def FqField : (AProg → (Env → (Go.TypeId → (Go.Operand → (Nat → (Option AVal)))))) :=
  (fun x0 x1 x2 x3 x4 => @Option.rec.{1, 0} _ (fun _ => Option AVal) (@Option.none _) (fun x5 => FfieldA x0 x2 x5 x4) (Faeval x1 x3))
theorem FqField_eq : @FqField = @Go.Abs.qField := by
  delta FqField
  rw [FfieldA_eq, Faeval_eq]; kernel_rfl
noncomputable def FindexAtA_0 : (AProg → (Nat → (Go.TypeId → (Pos → (Nat → (Nat → (Option AVal))))))) :=
  (fun x0 x1 x2 x3 x4 x5 => @Option.rec.{1, 0} _ (fun _ => Option AVal) (@Option.none _) (fun x6 => @Bool.rec.{1} (fun _ => Option AVal) (@Option.none _) (@Option.some _ (AVal.ptr x3 (Nat.add x4 (Nat.mul x1 x6)))) (Nat.ble (Nat.succ x1) x5)) (FsizeA x0 x2))
noncomputable def FindexAtA_1 : (AProg → (AVal → (Nat → (Go.TypeId → (Option AVal))))) :=
  (fun x0 x1 x2 x3 => @AVal.rec.{1} (fun x4 => (((Nat.hasNotBit (nat_lit 96) (AVal.ctorIdx x4)) → (Option AVal)) → (Option AVal))) (fun _ => PUnit) (fun x4 x5 => x5 (nbq (nat_lit 96) (nat_lit 0) rfl)) (fun x4 x5 x6 => x6 (nbq (nat_lit 96) (nat_lit 1) rfl)) (fun x4 x5 => x5 (nbq (nat_lit 96) (nat_lit 2) rfl)) (fun x4 x5 x6 => x6 (nbq (nat_lit 96) (nat_lit 3) rfl)) (fun x4 => x4 (nbq (nat_lit 96) (nat_lit 4) rfl)) (fun x4 x5 x6 x7 _ => FindexAtA_0 x0 x2 x3 x4 x5 x6) (fun x4 x5 x6 x7 _ => FindexAtA_0 x0 x2 x3 x4 x5 x6) (fun x4 => x4 (nbq (nat_lit 96) (nat_lit 7) rfl)) (fun x4 x5 => x5 (nbq (nat_lit 96) (nat_lit 8) rfl)) (fun x4 => x4 (nbq (nat_lit 96) (nat_lit 9) rfl)) (fun x4 x5 x6 _ _ x9 => x9 (nbq (nat_lit 96) (nat_lit 10) rfl)) (fun x4 x5 => x5 (nbq (nat_lit 96) (nat_lit 11) rfl)) (fun x4 => x4 (nbq (nat_lit 96) (nat_lit 12) rfl)) (fun x4 x5 _ x7 => x7 (nbq (nat_lit 96) (nat_lit 13) rfl)) (fun x4 => x4 (nbq (nat_lit 96) (nat_lit 14) rfl)) (fun x4 _ x6 => x6 (nbq (nat_lit 96) (nat_lit 15) rfl)) (fun x4 _ x6 => x6 (nbq (nat_lit 96) (nat_lit 16) rfl)) PUnit.unit (fun x4 _ _ _ => PUnit.unit) x1 (fun _ => @Option.none _))
noncomputable def FindexAtA_2 : (AProg → (Nat → (Nat → (Go.TypeId → (Pos → (Nat → (Option AVal))))))) :=
  (fun x0 x1 x2 x3 x4 x5 => @Option.rec.{1, 0} _ (fun _ => Option AVal) (@Option.none _) (fun x6 => @Bool.rec.{1} (fun _ => Option AVal) (@Option.none _) (@Option.some _ (AVal.ptr x4 (Nat.add x5 (Nat.mul x1 x6)))) (Nat.ble (Nat.succ x1) x2)) (FsizeA x0 x3))
noncomputable def FindexAtA_3 : (AProg → (AVal → (Nat → (Nat → (Go.TypeId → (Option AVal)))))) :=
  (fun x0 x1 x2 x3 x4 => @AVal.rec.{1} (fun x5 => (((Nat.hasNotBit (nat_lit 8) (AVal.ctorIdx x5)) → (Option AVal)) → (Option AVal))) (fun _ => PUnit) (fun x5 x6 => x6 (nbq (nat_lit 8) (nat_lit 0) rfl)) (fun x5 x6 x7 => x7 (nbq (nat_lit 8) (nat_lit 1) rfl)) (fun x5 x6 => x6 (nbq (nat_lit 8) (nat_lit 2) rfl)) (fun x5 x6 _ => FindexAtA_2 x0 x2 x3 x4 x5 x6) (fun x5 => x5 (nbq (nat_lit 8) (nat_lit 4) rfl)) (fun x5 x6 x7 x8 x9 => x9 (nbq (nat_lit 8) (nat_lit 5) rfl)) (fun x5 x6 x7 x8 x9 => x9 (nbq (nat_lit 8) (nat_lit 6) rfl)) (fun x5 => x5 (nbq (nat_lit 8) (nat_lit 7) rfl)) (fun x5 x6 => x6 (nbq (nat_lit 8) (nat_lit 8) rfl)) (fun x5 => x5 (nbq (nat_lit 8) (nat_lit 9) rfl)) (fun x5 x6 x7 _ _ x10 => x10 (nbq (nat_lit 8) (nat_lit 10) rfl)) (fun x5 x6 => x6 (nbq (nat_lit 8) (nat_lit 11) rfl)) (fun x5 => x5 (nbq (nat_lit 8) (nat_lit 12) rfl)) (fun x5 x6 _ x8 => x8 (nbq (nat_lit 8) (nat_lit 13) rfl)) (fun x5 => x5 (nbq (nat_lit 8) (nat_lit 14) rfl)) (fun x5 _ x7 => x7 (nbq (nat_lit 8) (nat_lit 15) rfl)) (fun x5 _ x7 => x7 (nbq (nat_lit 8) (nat_lit 16) rfl)) PUnit.unit (fun x5 _ _ _ => PUnit.unit) x1 (fun _ => @Option.none _))
noncomputable def FindexAtA_4 : (AProg → (AVal → (Nat → (Go.TypeDesc → (Option AVal))))) :=
  (fun x0 x1 x2 x3 => @Go.TypeDesc.rec.{1} (fun x4 => (((Nat.hasNotBit (nat_lit 768) (Go.TypeDesc.ctorIdx x4)) → (Option AVal)) → (Option AVal))) (fun x4 => x4 (nbq (nat_lit 768) (nat_lit 0) rfl)) (fun x4 => x4 (nbq (nat_lit 768) (nat_lit 1) rfl)) (fun x4 x5 => x5 (nbq (nat_lit 768) (nat_lit 2) rfl)) (fun x4 x5 => x5 (nbq (nat_lit 768) (nat_lit 3) rfl)) (fun x4 x5 => x5 (nbq (nat_lit 768) (nat_lit 4) rfl)) (fun x4 => x4 (nbq (nat_lit 768) (nat_lit 5) rfl)) (fun x4 => x4 (nbq (nat_lit 768) (nat_lit 6) rfl)) (fun x4 x5 => x5 (nbq (nat_lit 768) (nat_lit 7) rfl)) (fun x4 _ => FindexAtA_1 x0 x1 x2 x4) (fun x4 x5 _ => FindexAtA_3 x0 x1 x2 x4 x5) (fun x4 x5 x6 => x6 (nbq (nat_lit 768) (nat_lit 10) rfl)) (fun x4 x5 x6 => x6 (nbq (nat_lit 768) (nat_lit 11) rfl)) (fun x4 x5 => x5 (nbq (nat_lit 768) (nat_lit 12) rfl)) (fun x4 x5 x6 x7 => x7 (nbq (nat_lit 768) (nat_lit 13) rfl)) (fun x4 x5 => x5 (nbq (nat_lit 768) (nat_lit 14) rfl)) (fun x4 x5 => x5 (nbq (nat_lit 768) (nat_lit 15) rfl)) (fun x4 x5 x6 => x6 (nbq (nat_lit 768) (nat_lit 16) rfl)) x3 (fun _ => @Option.none _))
noncomputable def FindexAtA_5 : (AProg → (Go.TypeId → (AVal → (Nat → (Option AVal))))) :=
  (fun x0 x1 x2 x3 => @Option.rec.{1, 0} _ (fun x4 => (((Nat.hasNotBit (nat_lit 2) (@Option.ctorIdx Go.TypeDesc x4)) → (Option AVal)) → (Option AVal))) (fun x4 => x4 (nbq (nat_lit 2) (nat_lit 0) rfl)) (fun x4 _ => FindexAtA_4 x0 x2 x3 x4) (Fund x0 x1) (fun _ => @Option.none _))
noncomputable def FindexAtA : (AProg → (Go.TypeId → (AVal → (AVal → (Option AVal))))) :=
  (fun x0 x1 x2 x3 => @Option.rec.{1, 0} _ (fun x4 => (((Nat.hasNotBit (nat_lit 2) (@Option.ctorIdx Nat x4)) → (Option AVal)) → (Option AVal))) (fun x4 => x4 (nbq (nat_lit 2) (nat_lit 0) rfl)) (fun x4 _ => FindexAtA_5 x0 x1 x2 x4) (FnatOf x3) (fun _ => @Option.none _))
theorem FindexAtA_eq : @FindexAtA = @Go.Abs.indexAtA := by
  delta FindexAtA
  delta FindexAtA_5
  delta FindexAtA_4
  delta FindexAtA_3
  delta FindexAtA_2
  delta FindexAtA_1
  delta FindexAtA_0
  rw [FsizeA_eq, Fund_eq, FnatOf_eq]; kernel_rfl
noncomputable def FqIndexAddr_0 : (AProg → (Env → (Go.TypeId → (Go.Operand → (AVal → (Option AVal)))))) :=
  (fun x0 x1 x2 x3 x4 => @Option.rec.{1, 0} _ (fun x5 => (((Nat.hasNotBit (nat_lit 2) (@Option.ctorIdx AVal x5)) → (Option AVal)) → (Option AVal))) (fun x5 => x5 (nbq (nat_lit 2) (nat_lit 0) rfl)) (fun x5 _ => FindexAtA x0 x2 x4 x5) (Faeval x1 x3) (fun _ => @Option.none _))
noncomputable def FqIndexAddr : (AProg → (Env → (Go.TypeId → (Go.Operand → (Go.Operand → (Option AVal)))))) :=
  (fun x0 x1 x2 x3 x4 => @Option.rec.{1, 0} _ (fun x5 => (((Nat.hasNotBit (nat_lit 2) (@Option.ctorIdx AVal x5)) → (Option AVal)) → (Option AVal))) (fun x5 => x5 (nbq (nat_lit 2) (nat_lit 0) rfl)) (fun x5 _ => FqIndexAddr_0 x0 x1 x2 x4 x5) (Faeval x1 x3) (fun _ => @Option.none _))
theorem FqIndexAddr_eq : @FqIndexAddr = @Go.Abs.qIndexAddr := by
  delta FqIndexAddr
  delta FqIndexAddr_0
  rw [FindexAtA_eq, Faeval_eq]; kernel_rfl
noncomputable def FindexA_0 : (AVal → (Nat → (Option AVal))) :=
  (fun x0 x1 => @AVal.rec.{1} (fun x2 => (((Nat.hasNotBit (nat_lit 4) (AVal.ctorIdx x2)) → (Option AVal)) → (Option AVal))) (fun _ => PUnit) (fun x2 x3 => x3 (nbq (nat_lit 4) (nat_lit 0) rfl)) (fun x2 x3 x4 => x4 (nbq (nat_lit 4) (nat_lit 1) rfl)) (fun x2 _ => @Option.rec.{1, 0} _ (fun _ => Option AVal) (@Option.none _) (fun x4 => @Option.some _ (AVal.int Go.IntKind.u8 (Int.ofNat x4))) (Fnth Nat x1 x2)) (fun x2 x3 x4 => x4 (nbq (nat_lit 4) (nat_lit 3) rfl)) (fun x2 => x2 (nbq (nat_lit 4) (nat_lit 4) rfl)) (fun x2 x3 x4 x5 x6 => x6 (nbq (nat_lit 4) (nat_lit 5) rfl)) (fun x2 x3 x4 x5 x6 => x6 (nbq (nat_lit 4) (nat_lit 6) rfl)) (fun x2 => x2 (nbq (nat_lit 4) (nat_lit 7) rfl)) (fun x2 x3 => x3 (nbq (nat_lit 4) (nat_lit 8) rfl)) (fun x2 => x2 (nbq (nat_lit 4) (nat_lit 9) rfl)) (fun x2 x3 x4 _ _ x7 => x7 (nbq (nat_lit 4) (nat_lit 10) rfl)) (fun x2 x3 => x3 (nbq (nat_lit 4) (nat_lit 11) rfl)) (fun x2 => x2 (nbq (nat_lit 4) (nat_lit 12) rfl)) (fun x2 x3 _ x5 => x5 (nbq (nat_lit 4) (nat_lit 13) rfl)) (fun x2 => x2 (nbq (nat_lit 4) (nat_lit 14) rfl)) (fun x2 _ x4 => x4 (nbq (nat_lit 4) (nat_lit 15) rfl)) (fun x2 _ x4 => x4 (nbq (nat_lit 4) (nat_lit 16) rfl)) PUnit.unit (fun x2 _ _ _ => PUnit.unit) x0 (fun _ => @Option.none _))
noncomputable def FindexA_1 : (AProg → (Nat → (Nat → (Go.TypeId → ((List AVal) → (Option AVal)))))) :=
  (fun x0 x1 x2 x3 x4 => @Option.rec.{1, 0} _ (fun _ => Option AVal) (@Option.none _) (fun x5 => @Bool.rec.{1} (fun _ => Option AVal) (@Option.none _) (FpartA x0 x3 x4 (Nat.mul x1 x5)) (Nat.ble (Nat.succ x1) x2)) (FsizeA x0 x3))
noncomputable def FindexA_2 : (AProg → (AVal → (Nat → (Nat → (Go.TypeId → (Option AVal)))))) :=
  (fun x0 x1 x2 x3 x4 => @AVal.rec.{1} (fun x5 => (((Nat.hasNotBit (nat_lit 32768) (AVal.ctorIdx x5)) → (Option AVal)) → (Option AVal))) (fun _ => PUnit) (fun x5 x6 => x6 (nbq (nat_lit 32768) (nat_lit 0) rfl)) (fun x5 x6 x7 => x7 (nbq (nat_lit 32768) (nat_lit 1) rfl)) (fun x5 x6 => x6 (nbq (nat_lit 32768) (nat_lit 2) rfl)) (fun x5 x6 x7 => x7 (nbq (nat_lit 32768) (nat_lit 3) rfl)) (fun x5 => x5 (nbq (nat_lit 32768) (nat_lit 4) rfl)) (fun x5 x6 x7 x8 x9 => x9 (nbq (nat_lit 32768) (nat_lit 5) rfl)) (fun x5 x6 x7 x8 x9 => x9 (nbq (nat_lit 32768) (nat_lit 6) rfl)) (fun x5 => x5 (nbq (nat_lit 32768) (nat_lit 7) rfl)) (fun x5 x6 => x6 (nbq (nat_lit 32768) (nat_lit 8) rfl)) (fun x5 => x5 (nbq (nat_lit 32768) (nat_lit 9) rfl)) (fun x5 x6 x7 _ _ x10 => x10 (nbq (nat_lit 32768) (nat_lit 10) rfl)) (fun x5 x6 => x6 (nbq (nat_lit 32768) (nat_lit 11) rfl)) (fun x5 => x5 (nbq (nat_lit 32768) (nat_lit 12) rfl)) (fun x5 x6 _ x8 => x8 (nbq (nat_lit 32768) (nat_lit 13) rfl)) (fun x5 => x5 (nbq (nat_lit 32768) (nat_lit 14) rfl)) (fun x5 _ _ => FindexA_1 x0 x2 x3 x4 x5) (fun x5 _ x7 => x7 (nbq (nat_lit 32768) (nat_lit 16) rfl)) PUnit.unit (fun x5 _ _ _ => PUnit.unit) x1 (fun _ => @Option.none _))
noncomputable def FindexA_3 : (AProg → (AVal → (Nat → (Go.TypeDesc → (Option AVal))))) :=
  (fun x0 x1 x2 x3 => @Go.TypeDesc.rec.{1} (fun x4 => (((Nat.hasNotBit (nat_lit 544) (Go.TypeDesc.ctorIdx x4)) → (Option AVal)) → (Option AVal))) (fun x4 => x4 (nbq (nat_lit 544) (nat_lit 0) rfl)) (fun x4 => x4 (nbq (nat_lit 544) (nat_lit 1) rfl)) (fun x4 x5 => x5 (nbq (nat_lit 544) (nat_lit 2) rfl)) (fun x4 x5 => x5 (nbq (nat_lit 544) (nat_lit 3) rfl)) (fun x4 x5 => x5 (nbq (nat_lit 544) (nat_lit 4) rfl)) (fun _ => FindexA_0 x1 x2) (fun x4 => x4 (nbq (nat_lit 544) (nat_lit 6) rfl)) (fun x4 x5 => x5 (nbq (nat_lit 544) (nat_lit 7) rfl)) (fun x4 x5 => x5 (nbq (nat_lit 544) (nat_lit 8) rfl)) (fun x4 x5 _ => FindexA_2 x0 x1 x2 x4 x5) (fun x4 x5 x6 => x6 (nbq (nat_lit 544) (nat_lit 10) rfl)) (fun x4 x5 x6 => x6 (nbq (nat_lit 544) (nat_lit 11) rfl)) (fun x4 x5 => x5 (nbq (nat_lit 544) (nat_lit 12) rfl)) (fun x4 x5 x6 x7 => x7 (nbq (nat_lit 544) (nat_lit 13) rfl)) (fun x4 x5 => x5 (nbq (nat_lit 544) (nat_lit 14) rfl)) (fun x4 x5 => x5 (nbq (nat_lit 544) (nat_lit 15) rfl)) (fun x4 x5 x6 => x6 (nbq (nat_lit 544) (nat_lit 16) rfl)) x3 (fun _ => @Option.none _))
noncomputable def FindexA_4 : (AProg → (Go.TypeId → (AVal → (Nat → (Option AVal))))) :=
  (fun x0 x1 x2 x3 => @Option.rec.{1, 0} _ (fun x4 => (((Nat.hasNotBit (nat_lit 2) (@Option.ctorIdx Go.TypeDesc x4)) → (Option AVal)) → (Option AVal))) (fun x4 => x4 (nbq (nat_lit 2) (nat_lit 0) rfl)) (fun x4 _ => FindexA_3 x0 x2 x3 x4) (Fund x0 x1) (fun _ => @Option.none _))
noncomputable def FindexA : (AProg → (Go.TypeId → (AVal → (AVal → (Option AVal))))) :=
  (fun x0 x1 x2 x3 => @Option.rec.{1, 0} _ (fun x4 => (((Nat.hasNotBit (nat_lit 2) (@Option.ctorIdx Nat x4)) → (Option AVal)) → (Option AVal))) (fun x4 => x4 (nbq (nat_lit 2) (nat_lit 0) rfl)) (fun x4 _ => FindexA_4 x0 x1 x2 x4) (FnatOf x3) (fun _ => @Option.none _))
theorem FindexA_eq : @FindexA = @Go.Abs.indexA := by
  delta FindexA
  delta FindexA_4
  delta FindexA_3
  delta FindexA_2
  delta FindexA_1
  delta FindexA_0
  rw [Fnth_eq, FpartA_eq, FsizeA_eq, Fund_eq, FnatOf_eq]; kernel_rfl
noncomputable def FqIndex_0 : (AProg → (Env → (Go.TypeId → (Go.Operand → (AVal → (Option AVal)))))) :=
  (fun x0 x1 x2 x3 x4 => @Option.rec.{1, 0} _ (fun x5 => (((Nat.hasNotBit (nat_lit 2) (@Option.ctorIdx AVal x5)) → (Option AVal)) → (Option AVal))) (fun x5 => x5 (nbq (nat_lit 2) (nat_lit 0) rfl)) (fun x5 _ => FindexA x0 x2 x4 x5) (Faeval x1 x3) (fun _ => @Option.none _))
noncomputable def FqIndex : (AProg → (Env → (Go.TypeId → (Go.Operand → (Go.Operand → (Option AVal)))))) :=
  (fun x0 x1 x2 x3 x4 => @Option.rec.{1, 0} _ (fun x5 => (((Nat.hasNotBit (nat_lit 2) (@Option.ctorIdx AVal x5)) → (Option AVal)) → (Option AVal))) (fun x5 => x5 (nbq (nat_lit 2) (nat_lit 0) rfl)) (fun x5 _ => FqIndex_0 x0 x1 x2 x4 x5) (Faeval x1 x3) (fun _ => @Option.none _))
theorem FqIndex_eq : @FqIndex = @Go.Abs.qIndex := by
  delta FqIndex
  delta FqIndex_0
  rw [FindexA_eq, Faeval_eq]; kernel_rfl
noncomputable def FkeyType_0 : (Go.TypeDesc → (Option (Prod Go.TypeId Go.TypeId))) :=
  (fun x0 => @Go.TypeDesc.rec.{1} (fun x1 => (((Nat.hasNotBit (nat_lit 1024) (Go.TypeDesc.ctorIdx x1)) → (Option (Prod Go.TypeId Go.TypeId))) → (Option (Prod Go.TypeId Go.TypeId)))) (fun x1 => x1 (nbq (nat_lit 1024) (nat_lit 0) rfl)) (fun x1 => x1 (nbq (nat_lit 1024) (nat_lit 1) rfl)) (fun x1 x2 => x2 (nbq (nat_lit 1024) (nat_lit 2) rfl)) (fun x1 x2 => x2 (nbq (nat_lit 1024) (nat_lit 3) rfl)) (fun x1 x2 => x2 (nbq (nat_lit 1024) (nat_lit 4) rfl)) (fun x1 => x1 (nbq (nat_lit 1024) (nat_lit 5) rfl)) (fun x1 => x1 (nbq (nat_lit 1024) (nat_lit 6) rfl)) (fun x1 x2 => x2 (nbq (nat_lit 1024) (nat_lit 7) rfl)) (fun x1 x2 => x2 (nbq (nat_lit 1024) (nat_lit 8) rfl)) (fun x1 x2 x3 => x3 (nbq (nat_lit 1024) (nat_lit 9) rfl)) (fun x1 x2 _ => @Option.some _ (@Prod.mk _ _ x1 x2)) (fun x1 x2 x3 => x3 (nbq (nat_lit 1024) (nat_lit 11) rfl)) (fun x1 x2 => x2 (nbq (nat_lit 1024) (nat_lit 12) rfl)) (fun x1 x2 x3 x4 => x4 (nbq (nat_lit 1024) (nat_lit 13) rfl)) (fun x1 x2 => x2 (nbq (nat_lit 1024) (nat_lit 14) rfl)) (fun x1 x2 => x2 (nbq (nat_lit 1024) (nat_lit 15) rfl)) (fun x1 x2 x3 => x3 (nbq (nat_lit 1024) (nat_lit 16) rfl)) x0 (fun _ => @Option.none _))
noncomputable def FkeyType : (AProg → (Go.TypeId → (Option (Prod Go.TypeId Go.TypeId)))) :=
  (fun x0 x1 => @Option.rec.{1, 0} _ (fun x2 => (((Nat.hasNotBit (nat_lit 2) (@Option.ctorIdx Go.TypeDesc x2)) → (Option (Prod Go.TypeId Go.TypeId))) → (Option (Prod Go.TypeId Go.TypeId)))) (fun x2 => x2 (nbq (nat_lit 2) (nat_lit 0) rfl)) (fun x2 _ => FkeyType_0 x2) (Fund x0 x1) (fun _ => @Option.none _))
theorem FkeyType_eq : @FkeyType = @Go.Abs.keyType := by
  delta FkeyType
  delta FkeyType_0
  rw [Fund_eq]; kernel_rfl
noncomputable def FkeyFine_kFs : (AProg → ((Go.TypeId → (AVal → Bool)) → ((List Go.Field) → ((List AVal) → Bool)))) :=
  (fun x0 x1 x2 => @List.rec.{1, 0} _ (fun _ => ((List AVal) → Bool)) (fun _ => Bool.true) (fun x3 _ x5 x6 => @Option.rec.{1, 0} _ (fun _ => Bool) Bool.false (fun x7 => @Bool.rec.{1} (fun _ => Bool) Bool.false (x5 x6) (x1 (Go.Field.type x3) x7)) (FpartA x0 (Go.Field.type x3) x6 (Go.Field.offset x3))) x2)
theorem FkeyFine_kFs_eq : @FkeyFine_kFs = @Go.Abs.keyFine.kFs := by
  funext p0 p1 p2
  refine @List.rec _ (fun x => @FkeyFine_kFs p0 p1 x = @Go.Abs.keyFine.kFs p0 p1 x) ?_ ?_ p2
  · skip
    refine Eq.trans (show (@FkeyFine_kFs p0 p1 (@List.nil _)) = (fun _ => Bool.true) by kernel_rfl) ?_
    kernel_rfl
  · intro f0 f1 h0
    refine Eq.trans (show (@FkeyFine_kFs p0 p1 (@List.cons _ f0 f1)) = (fun x0 => @Option.rec.{1, 0} _ (fun _ => Bool) Bool.false (fun x1 => @Bool.rec.{1} (fun _ => Bool) Bool.false ((@FkeyFine_kFs p0 p1 f1) x0) (p1 (Go.Field.type f0) x1)) (FpartA p0 (Go.Field.type f0) x0 (Go.Field.offset f0))) by kernel_rfl) ?_
    generalize (@FkeyFine_kFs p0 p1 f1) = r0 at h0 ⊢
    subst h0
    rw [FpartA_eq]
    kernel_rfl
noncomputable def FkeyFine_0 : (AProg → ((Go.TypeId → (AVal → Bool)) → (AVal → ((Array Go.Field) → Bool)))) :=
  (fun x0 x1 x2 x3 => @AVal.rec.{1} (fun x4 => (((Nat.hasNotBit (nat_lit 32768) (AVal.ctorIdx x4)) → Bool) → Bool)) (fun _ => PUnit) (fun x4 x5 => x5 (nbq (nat_lit 32768) (nat_lit 0) rfl)) (fun x4 x5 x6 => x6 (nbq (nat_lit 32768) (nat_lit 1) rfl)) (fun x4 x5 => x5 (nbq (nat_lit 32768) (nat_lit 2) rfl)) (fun x4 x5 x6 => x6 (nbq (nat_lit 32768) (nat_lit 3) rfl)) (fun x4 => x4 (nbq (nat_lit 32768) (nat_lit 4) rfl)) (fun x4 x5 x6 x7 x8 => x8 (nbq (nat_lit 32768) (nat_lit 5) rfl)) (fun x4 x5 x6 x7 x8 => x8 (nbq (nat_lit 32768) (nat_lit 6) rfl)) (fun x4 => x4 (nbq (nat_lit 32768) (nat_lit 7) rfl)) (fun x4 x5 => x5 (nbq (nat_lit 32768) (nat_lit 8) rfl)) (fun x4 => x4 (nbq (nat_lit 32768) (nat_lit 9) rfl)) (fun x4 x5 x6 _ _ x9 => x9 (nbq (nat_lit 32768) (nat_lit 10) rfl)) (fun x4 x5 => x5 (nbq (nat_lit 32768) (nat_lit 11) rfl)) (fun x4 => x4 (nbq (nat_lit 32768) (nat_lit 12) rfl)) (fun x4 x5 _ x7 => x7 (nbq (nat_lit 32768) (nat_lit 13) rfl)) (fun x4 => x4 (nbq (nat_lit 32768) (nat_lit 14) rfl)) (fun x4 _ _ => FkeyFine_kFs x0 x1 (@Array.toList Go.Field x3) x4) (fun x4 _ x6 => x6 (nbq (nat_lit 32768) (nat_lit 16) rfl)) PUnit.unit (fun x4 _ _ _ => PUnit.unit) x2 (fun _ => Bool.false))
noncomputable def FkeyFine_1 : (AProg → ((Go.TypeId → (AVal → Bool)) → (AVal → (Go.TypeDesc → Bool)))) :=
  (fun x0 x1 x2 x3 => @Go.TypeDesc.rec.{1} (fun x4 => (((Nat.hasNotBit (nat_lit 20992) (Go.TypeDesc.ctorIdx x4)) → Bool) → Bool)) (fun x4 => x4 (nbq (nat_lit 20992) (nat_lit 0) rfl)) (fun x4 => x4 (nbq (nat_lit 20992) (nat_lit 1) rfl)) (fun x4 x5 => x5 (nbq (nat_lit 20992) (nat_lit 2) rfl)) (fun x4 x5 => x5 (nbq (nat_lit 20992) (nat_lit 3) rfl)) (fun x4 x5 => x5 (nbq (nat_lit 20992) (nat_lit 4) rfl)) (fun x4 => x4 (nbq (nat_lit 20992) (nat_lit 5) rfl)) (fun x4 => x4 (nbq (nat_lit 20992) (nat_lit 6) rfl)) (fun x4 x5 => x5 (nbq (nat_lit 20992) (nat_lit 7) rfl)) (fun x4 x5 => x5 (nbq (nat_lit 20992) (nat_lit 8) rfl)) (fun x4 x5 _ => Bool.false) (fun x4 x5 x6 => x6 (nbq (nat_lit 20992) (nat_lit 10) rfl)) (fun x4 x5 x6 => x6 (nbq (nat_lit 20992) (nat_lit 11) rfl)) (fun x4 _ => FkeyFine_0 x0 x1 x2 x4) (fun x4 x5 x6 x7 => x7 (nbq (nat_lit 20992) (nat_lit 13) rfl)) (fun x4 _ => Bool.false) (fun x4 x5 => x5 (nbq (nat_lit 20992) (nat_lit 15) rfl)) (fun x4 x5 x6 => x6 (nbq (nat_lit 20992) (nat_lit 16) rfl)) x3 (fun _ => Bool.true))
noncomputable def FkeyFine : (AProg → (Nat → (Go.TypeId → (AVal → Bool)))) :=
  (fun x0 x1 => @Nat.rec.{1} (fun _ => (Go.TypeId → (AVal → Bool))) (fun _ _ => Bool.false) (fun _ x3 x4 x5 => @Option.rec.{1, 0} _ (fun _ => Bool) Bool.false (fun x6 => FkeyFine_1 x0 x3 x5 x6) (Fund x0 x4)) x1)
theorem FkeyFine_eq : @FkeyFine = @Go.Abs.keyFine := by
  funext p0 p1
  refine @Nat.rec  (fun x => @FkeyFine p0 x = @Go.Abs.keyFine p0 x) ?_ ?_ p1
  · skip
    refine Eq.trans (show (@FkeyFine p0 (@Nat.zero )) = (fun _ _ => Bool.false) by kernel_rfl) ?_
    kernel_rfl
  · intro f0 h0
    refine Eq.trans (show (@FkeyFine p0 (@Nat.succ f0)) = (fun x0 x1 => @Option.rec.{1, 0} _ (fun _ => Bool) Bool.false (fun x2 => FkeyFine_1 p0 (@FkeyFine p0 f0) x1 x2) (Fund p0 x0)) by kernel_rfl) ?_
    delta FkeyFine_1
    delta FkeyFine_0
    generalize (@FkeyFine p0 f0) = r0 at h0 ⊢
    subst h0
    rw [FkeyFine_kFs_eq, Fund_eq]
    kernel_rfl
noncomputable def FlookupA_missing : (AProg → (Bool → (Go.TypeId → (Option AVal)))) :=
  (fun x0 x1 x2 => @Option.rec.{1, 0} _ (fun _ => Option AVal) (@Option.none _) (fun x3 => @Option.some _ (@Bool.rec.{1} (fun _ => AVal) x3 (AVal.tuple (@List.cons _ x3 (@List.cons _ (AVal.bool Bool.false) (@List.nil _)))) x1)) (FzeroA x0 x2))
theorem FlookupA_missing_eq : @FlookupA_missing = @Go.Abs.lookupA.missing := by
  delta FlookupA_missing
  rw [FzeroA_eq]; kernel_rfl
noncomputable def FmapAt_0 : (AObj → (Option (Prod (List AEntry) Nat))) :=
  (fun x0 => @AObj.rec.{1} (fun x1 => (((Nat.hasNotBit (nat_lit 2) (AObj.ctorIdx x1)) → (Option (Prod (List AEntry) Nat))) → (Option (Prod (List AEntry) Nat)))) (fun x1 x2 x3 x4 x5 => x5 (nbq (nat_lit 2) (nat_lit 0) rfl)) (fun x1 x2 _ => @Option.some _ (@Prod.mk _ _ x1 x2)) (fun x1 x2 x3 => x3 (nbq (nat_lit 2) (nat_lit 2) rfl)) (fun x1 x2 x3 x4 => x4 (nbq (nat_lit 2) (nat_lit 3) rfl)) (fun x1 x2 => x2 (nbq (nat_lit 2) (nat_lit 4) rfl)) (fun x1 x2 => x2 (nbq (nat_lit 2) (nat_lit 5) rfl)) (fun x1 => x1 (nbq (nat_lit 2) (nat_lit 6) rfl)) x0 (fun _ => @Option.none _))
noncomputable def FmapAt : ((List (PTree AObj)) → (Heap → (Pos → (Option (Prod (List AEntry) Nat))))) :=
  (fun x0 x1 x2 => @Option.rec.{1, 0} _ (fun x3 => (((Nat.hasNotBit (nat_lit 2) (@Option.ctorIdx AObj x3)) → (Option (Prod (List AEntry) Nat))) → (Option (Prod (List AEntry) Nat)))) (fun x3 => x3 (nbq (nat_lit 2) (nat_lit 0) rfl)) (fun x3 _ => FmapAt_0 x3) (Fhget x0 x1 x2) (fun _ => @Option.none _))
theorem FmapAt_eq : @FmapAt = @Go.Abs.mapAt := by
  delta FmapAt
  delta FmapAt_0
  rw [Fhget_eq]; kernel_rfl
noncomputable def FfindA_0 : (AVal → (AEntry → (Nat → (Option (Option (Prod Nat AEntry)))))) :=
  (fun x0 x1 x2 => @Bool.rec.{1} (fun _ => Option (Option (Prod Nat AEntry))) (@Option.none _) (@Option.some _ (@Option.some _ (@Prod.mk _ _ x2 x1))) (same (AEntry.k x1) x0))
noncomputable def FfindA_1 : (AProg → ((List (PTree AObj)) → (Heap → (Go.TypeId → (AVal → (AEntry → ((Nat → (Option (Option (Prod Nat AEntry)))) → (Nat → (Option (Option (Prod Nat AEntry))))))))))) :=
  (fun x0 x1 x2 x3 x4 x5 x6 x7 => @Option.rec.{1, 0} _ (fun _ => Option (Option (Prod Nat AEntry))) (@Option.none _) (fun x8 => @Bool.rec.{1} (fun _ => Option (Option (Prod Nat AEntry))) (x6 (Nat.succ x7)) (FfindA_0 x4 x5 x7) x8) (FeqA x0 x1 x2 (nat_lit 40) x3 x4 (AEntry.k x5)))
noncomputable def FfindA : (AProg → ((List (PTree AObj)) → (Heap → (Go.TypeId → (AVal → ((List AEntry) → (Nat → (Option (Option (Prod Nat AEntry)))))))))) :=
  (fun x0 x1 x2 x3 x4 x5 => @List.rec.{1, 0} _ (fun _ => (Nat → (Option (Option (Prod Nat AEntry))))) (fun _ => @Option.some _ (@Option.none _)) (fun x6 _ x8 x9 => FfindA_1 x0 x1 x2 x3 x4 x6 x8 x9) x5)
theorem FfindA_eq : @FfindA = @Go.Abs.findA := by
  funext p0 p1 p2 p3 p4 p5
  refine @List.rec _ (fun x => @FfindA p0 p1 p2 p3 p4 x = @Go.Abs.findA p0 p1 p2 p3 p4 x) ?_ ?_ p5
  · skip
    refine Eq.trans (show (@FfindA p0 p1 p2 p3 p4 (@List.nil _)) = (fun _ => @Option.some _ (@Option.none _)) by kernel_rfl) ?_
    kernel_rfl
  · intro f0 f1 h0
    refine Eq.trans (show (@FfindA p0 p1 p2 p3 p4 (@List.cons _ f0 f1)) = (fun x0 => FfindA_1 p0 p1 p2 p3 p4 f0 (@FfindA p0 p1 p2 p3 p4 f1) x0) by kernel_rfl) ?_
    delta FfindA_1
    delta FfindA_0
    generalize (@FfindA p0 p1 p2 p3 p4 f1) = r0 at h0 ⊢
    subst h0
    rw [FeqA_eq]
    kernel_rfl
noncomputable def FlookupA_0 : (Bool → ((Prod Nat AEntry) → (Option AVal))) :=
  (fun x0 x1 => @Prod.rec.{1, 0, 0} _ _ (fun _ => Option AVal) (fun _ x3 => @Option.some _ (@Bool.rec.{1} (fun _ => AVal) (AEntry.v x3) (AVal.tuple (@List.cons _ (AEntry.v x3) (@List.cons _ (AVal.bool Bool.true) (@List.nil _)))) x0)) x1)
noncomputable def FlookupA_1 : (AProg → ((List (PTree AObj)) → (Heap → (AVal → (Bool → (Go.TypeId → (Go.TypeId → ((List AEntry) → (Option AVal))))))))) :=
  (fun x0 x1 x2 x3 x4 x5 x6 x7 => @Option.rec.{1, 0} _ (fun _ => Option AVal) (@Option.none _) (fun x8 => @Option.rec.{1, 0} _ (fun _ => Option AVal) (FlookupA_missing x0 x4 x6) (fun x9 => FlookupA_0 x4 x9) x8) (FfindA x0 x1 x2 x5 x3 x7 (nat_lit 0)))
noncomputable def FlookupA_2 : (AProg → ((List (PTree AObj)) → (Heap → (AVal → (Bool → (Go.TypeId → (Go.TypeId → (Pos → (Option AVal))))))))) :=
  (fun x0 x1 x2 x3 x4 x5 x6 x7 => @Option.rec.{1, 0} _ (fun _ => Option AVal) (@Option.none _) (fun x8 => @Prod.rec.{1, 0, 0} _ _ (fun _ => Option AVal) (fun x9 _ => FlookupA_1 x0 x1 x2 x3 x4 x5 x6 x9) x8) (FmapAt x1 x2 x7))
noncomputable def FlookupA_3 : (AProg → ((List (PTree AObj)) → (Heap → (AVal → (AVal → (Bool → (Go.TypeId → (Go.TypeId → (Option AVal))))))))) :=
  (fun x0 x1 x2 x3 x4 x5 x6 x7 => @AVal.rec.{1} (fun x8 => (((Nat.hasNotBit (nat_lit 768) (AVal.ctorIdx x8)) → (Option AVal)) → (Option AVal))) (fun _ => PUnit) (fun x8 x9 => x9 (nbq (nat_lit 768) (nat_lit 0) rfl)) (fun x8 x9 x10 => x10 (nbq (nat_lit 768) (nat_lit 1) rfl)) (fun x8 x9 => x9 (nbq (nat_lit 768) (nat_lit 2) rfl)) (fun x8 x9 x10 => x10 (nbq (nat_lit 768) (nat_lit 3) rfl)) (fun x8 => x8 (nbq (nat_lit 768) (nat_lit 4) rfl)) (fun x8 x9 x10 x11 x12 => x12 (nbq (nat_lit 768) (nat_lit 5) rfl)) (fun x8 x9 x10 x11 x12 => x12 (nbq (nat_lit 768) (nat_lit 6) rfl)) (fun x8 => x8 (nbq (nat_lit 768) (nat_lit 7) rfl)) (fun x8 _ => FlookupA_2 x0 x1 x2 x4 x5 x6 x7 x8) (fun _ => FlookupA_missing x0 x5 x7) (fun x8 x9 x10 _ _ x13 => x13 (nbq (nat_lit 768) (nat_lit 10) rfl)) (fun x8 x9 => x9 (nbq (nat_lit 768) (nat_lit 11) rfl)) (fun x8 => x8 (nbq (nat_lit 768) (nat_lit 12) rfl)) (fun x8 x9 _ x11 => x11 (nbq (nat_lit 768) (nat_lit 13) rfl)) (fun x8 => x8 (nbq (nat_lit 768) (nat_lit 14) rfl)) (fun x8 _ x10 => x10 (nbq (nat_lit 768) (nat_lit 15) rfl)) (fun x8 _ x10 => x10 (nbq (nat_lit 768) (nat_lit 16) rfl)) PUnit.unit (fun x8 _ _ _ => PUnit.unit) x3 (fun _ => @Option.none _))
noncomputable def FlookupA_4 : (AProg → ((List (PTree AObj)) → (Heap → (AVal → (AVal → (Bool → ((Prod Go.TypeId Go.TypeId) → (Option AVal)))))))) :=
  (fun x0 x1 x2 x3 x4 x5 x6 => @Prod.rec.{1, 0, 0} _ _ (fun _ => Option AVal) (fun x7 x8 => @Bool.rec.{1} (fun _ => Option AVal) (@Option.none _) (FlookupA_3 x0 x1 x2 x3 x4 x5 x7 x8) (FkeyFine x0 (nat_lit 40) x7 x4)) x6)
noncomputable def FlookupA : (AProg → ((List (PTree AObj)) → (Heap → (Go.TypeId → (AVal → (AVal → (Bool → (Option AVal)))))))) :=
  (fun x0 x1 x2 x3 x4 x5 x6 => @Option.rec.{1, 0} _ (fun _ => Option AVal) (@Option.none _) (fun x7 => FlookupA_4 x0 x1 x2 x4 x5 x6 x7) (FkeyType x0 x3))
theorem FlookupA_eq : @FlookupA = @Go.Abs.lookupA := by
  delta FlookupA
  delta FlookupA_4
  delta FlookupA_3
  delta FlookupA_2
  delta FlookupA_1
  delta FlookupA_0
  rw [FlookupA_missing_eq, FfindA_eq, FmapAt_eq, FkeyFine_eq, FkeyType_eq]; kernel_rfl
noncomputable def FqLookup_0 : (AProg → ((List (PTree AObj)) → (Env → (Heap → (Go.TypeId → (Go.Operand → (Bool → (AVal → (Option AVal))))))))) :=
  (fun x0 x1 x2 x3 x4 x5 x6 x7 => @Option.rec.{1, 0} _ (fun x8 => (((Nat.hasNotBit (nat_lit 2) (@Option.ctorIdx AVal x8)) → (Option AVal)) → (Option AVal))) (fun x8 => x8 (nbq (nat_lit 2) (nat_lit 0) rfl)) (fun x8 _ => FlookupA x0 x1 x3 x4 x7 x8 x6) (Faeval x2 x5) (fun _ => @Option.none _))
noncomputable def FqLookup : (AProg → ((List (PTree AObj)) → (Env → (Heap → (Go.TypeId → (Go.Operand → (Go.Operand → (Bool → (Option AVal))))))))) :=
  (fun x0 x1 x2 x3 x4 x5 x6 x7 => @Option.rec.{1, 0} _ (fun x8 => (((Nat.hasNotBit (nat_lit 2) (@Option.ctorIdx AVal x8)) → (Option AVal)) → (Option AVal))) (fun x8 => x8 (nbq (nat_lit 2) (nat_lit 0) rfl)) (fun x8 _ => FqLookup_0 x0 x1 x2 x3 x4 x6 x7 x8) (Faeval x2 x5) (fun _ => @Option.none _))
theorem FqLookup_eq : @FqLookup = @Go.Abs.qLookup := by
  delta FqLookup
  delta FqLookup_0
  rw [FlookupA_eq, Faeval_eq]; kernel_rfl
noncomputable def FqEntry_pick : (Nat → ((List AEntry) → (Option AVal))) :=
  (fun x0 x1 => @List.rec.{1, 0} _ (fun _ => Option AVal) (@Option.none _) (fun x2 _ x4 => @Bool.rec.{1} (fun _ => Option AVal) x4 (@Option.some _ (AVal.tuple (@List.cons _ (AEntry.k x2) (@List.cons _ (AEntry.v x2) (@List.nil _))))) (Nat.beq (AEntry.born x2) x0)) x1)
theorem FqEntry_pick_eq : @FqEntry_pick = @Go.Abs.qEntry.pick := by
  funext p0 p1
  refine @List.rec _ (fun x => @FqEntry_pick p0 x = @Go.Abs.qEntry.pick p0 x) ?_ ?_ p1
  · skip
    refine Eq.trans (show (@FqEntry_pick p0 (@List.nil _)) = (@Option.none _) by kernel_rfl) ?_
    kernel_rfl
  · intro f0 f1 h0
    refine Eq.trans (show (@FqEntry_pick p0 (@List.cons _ f0 f1)) = (@Bool.rec.{1} (fun _ => Option AVal) (@FqEntry_pick p0 f1) (@Option.some _ (AVal.tuple (@List.cons _ (AEntry.k f0) (@List.cons _ (AEntry.v f0) (@List.nil _))))) (Nat.beq (AEntry.born f0) p0)) by kernel_rfl) ?_
    generalize (@FqEntry_pick p0 f1) = r0 at h0 ⊢
    subst h0
    kernel_rfl
noncomputable def FqEntry_0 : ((List (PTree AObj)) → (Heap → (Nat → (Pos → (Nat → (Option AVal)))))) :=
  (fun x0 x1 x2 x3 x4 => @Option.rec.{1, 0} _ (fun _ => Option AVal) (@Option.none _) (fun x5 => @Prod.rec.{1, 0, 0} _ _ (fun _ => Option AVal) (fun x6 x7 => @Bool.rec.{1} (fun _ => Option AVal) (@Option.none _) (FqEntry_pick x4 x6) (Nat.beq x7 x2)) x5) (FmapAt x0 x1 x3))
noncomputable def FqEntry_1 : ((List (PTree AObj)) → (Heap → (Nat → ((List Nat) → (Pos → (Option AVal)))))) :=
  (fun x0 x1 x2 x3 x4 => @List.rec.{1, 0} _ (fun x5 => (((Nat.hasNotBit (nat_lit 2) (@List.ctorIdx Nat x5)) → (Option AVal)) → (Option AVal))) (fun x5 => x5 (nbq (nat_lit 2) (nat_lit 0) rfl)) (fun x5 x6 _ _ => FqEntry_0 x0 x1 x2 x4 x5) x3 (fun _ => @Option.none _))
noncomputable def FqEntry_2 : ((List (PTree AObj)) → (Heap → (AObj → (Option AVal)))) :=
  (fun x0 x1 x2 => @AObj.rec.{1} (fun x3 => (((Nat.hasNotBit (nat_lit 8) (AObj.ctorIdx x3)) → (Option AVal)) → (Option AVal))) (fun x3 x4 x5 x6 x7 => x7 (nbq (nat_lit 8) (nat_lit 0) rfl)) (fun x3 x4 x5 => x5 (nbq (nat_lit 8) (nat_lit 1) rfl)) (fun x3 x4 x5 => x5 (nbq (nat_lit 8) (nat_lit 2) rfl)) (fun x3 x4 x5 _ => @Option.rec.{1, 0} _ (fun x7 => (((Nat.hasNotBit (nat_lit 2) (@Option.ctorIdx Pos x7)) → (Option AVal)) → (Option AVal))) (fun x7 => x7 (nbq (nat_lit 2) (nat_lit 0) rfl)) (fun x7 _ => FqEntry_1 x0 x1 x4 x5 x7) x3 (fun _ => @Option.none _)) (fun x3 x4 => x4 (nbq (nat_lit 8) (nat_lit 4) rfl)) (fun x3 x4 => x4 (nbq (nat_lit 8) (nat_lit 5) rfl)) (fun x3 => x3 (nbq (nat_lit 8) (nat_lit 6) rfl)) x2 (fun _ => @Option.none _))
noncomputable def FqEntry_3 : ((List (PTree AObj)) → (Heap → (Pos → (Nat → (Option AVal))))) :=
  (fun x0 x1 x2 x3 => @dite (Option AVal) (@Eq Nat x3 (nat_lit 0)) (Nat.decEq x3 (nat_lit 0)) (@Eq.ndrec_symm Nat (nat_lit 0) (fun _ => Option AVal) (@Option.rec.{1, 0} _ (fun x4 => (((Nat.hasNotBit (nat_lit 2) (@Option.ctorIdx AObj x4)) → (Option AVal)) → (Option AVal))) (fun x4 => x4 (nbq (nat_lit 2) (nat_lit 0) rfl)) (fun x4 _ => FqEntry_2 x0 x1 x4) (Fhget x0 x1 x2) (fun _ => @Option.none _)) x3) (fun _ => @Option.none _))
noncomputable def FqEntry_4 : ((List (PTree AObj)) → (Heap → (AVal → (Option AVal)))) :=
  (fun x0 x1 x2 => @AVal.rec.{1} (fun x3 => (((Nat.hasNotBit (nat_lit 8) (AVal.ctorIdx x3)) → (Option AVal)) → (Option AVal))) (fun _ => PUnit) (fun x3 x4 => x4 (nbq (nat_lit 8) (nat_lit 0) rfl)) (fun x3 x4 x5 => x5 (nbq (nat_lit 8) (nat_lit 1) rfl)) (fun x3 x4 => x4 (nbq (nat_lit 8) (nat_lit 2) rfl)) (fun x3 x4 _ => FqEntry_3 x0 x1 x3 x4) (fun x3 => x3 (nbq (nat_lit 8) (nat_lit 4) rfl)) (fun x3 x4 x5 x6 x7 => x7 (nbq (nat_lit 8) (nat_lit 5) rfl)) (fun x3 x4 x5 x6 x7 => x7 (nbq (nat_lit 8) (nat_lit 6) rfl)) (fun x3 => x3 (nbq (nat_lit 8) (nat_lit 7) rfl)) (fun x3 x4 => x4 (nbq (nat_lit 8) (nat_lit 8) rfl)) (fun x3 => x3 (nbq (nat_lit 8) (nat_lit 9) rfl)) (fun x3 x4 x5 _ _ x8 => x8 (nbq (nat_lit 8) (nat_lit 10) rfl)) (fun x3 x4 => x4 (nbq (nat_lit 8) (nat_lit 11) rfl)) (fun x3 => x3 (nbq (nat_lit 8) (nat_lit 12) rfl)) (fun x3 x4 _ x6 => x6 (nbq (nat_lit 8) (nat_lit 13) rfl)) (fun x3 => x3 (nbq (nat_lit 8) (nat_lit 14) rfl)) (fun x3 _ x5 => x5 (nbq (nat_lit 8) (nat_lit 15) rfl)) (fun x3 _ x5 => x5 (nbq (nat_lit 8) (nat_lit 16) rfl)) PUnit.unit (fun x3 _ _ _ => PUnit.unit) x2 (fun _ => @Option.none _))
noncomputable def FqEntry : ((List (PTree AObj)) → (Env → (Heap → (Go.Operand → (Option AVal))))) :=
  (fun x0 x1 x2 x3 => @Option.rec.{1, 0} _ (fun x4 => (((Nat.hasNotBit (nat_lit 2) (@Option.ctorIdx AVal x4)) → (Option AVal)) → (Option AVal))) (fun x4 => x4 (nbq (nat_lit 2) (nat_lit 0) rfl)) (fun x4 _ => FqEntry_4 x0 x2 x4) (Faeval x1 x3) (fun _ => @Option.none _))
theorem FqEntry_eq : @FqEntry = @Go.Abs.qEntry := by
  delta FqEntry
  delta FqEntry_4
  delta FqEntry_3
  delta FqEntry_2
  delta FqEntry_1
  delta FqEntry_0
  rw [FqEntry_pick_eq, FmapAt_eq, Fhget_eq, Faeval_eq]; kernel_rfl
noncomputable def FqAssert_qFails : (AProg → (Bool → (Go.TypeId → (Option AVal)))) :=
  (fun x0 x1 x2 => @Bool.rec.{1} (fun _ => Option AVal) (@Option.none _) (@Option.rec.{1, 0} _ (fun _ => Option AVal) (@Option.none _) (fun x3 => @Option.some _ (AVal.tuple (@List.cons _ x3 (@List.cons _ (AVal.bool Bool.false) (@List.nil _))))) (FzeroA x0 x2)) x1)
theorem FqAssert_qFails_eq : @FqAssert_qFails = @Go.Abs.qAssert.qFails := by
  delta FqAssert_qFails
  rw [FzeroA_eq]; kernel_rfl
noncomputable def FqAssert_0 : (AProg → (Go.TypeId → (Bool → (Nat → (AVal → (Option AVal)))))) :=
  (fun x0 x1 x2 x3 x4 => @Bool.rec.{1} (fun _ => Option AVal) (FqAssert_qFails x0 x2 x1) (@Option.some _ (@Bool.rec.{1} (fun _ => AVal) x4 (AVal.tuple (@List.cons _ x4 (@List.cons _ (AVal.bool Bool.true) (@List.nil _)))) x2)) (Nat.beq x3 x1))
noncomputable def FqAssert_1 : (AProg → (Go.TypeId → (Bool → (AVal → (Go.TypeDesc → (Option AVal)))))) :=
  (fun x0 x1 x2 x3 x4 => @Go.TypeDesc.rec.{1} (fun x5 => (((Nat.hasNotBit (nat_lit 16384) (Go.TypeDesc.ctorIdx x5)) → (Option AVal)) → (Option AVal))) (fun x5 => x5 (nbq (nat_lit 16384) (nat_lit 0) rfl)) (fun x5 => x5 (nbq (nat_lit 16384) (nat_lit 1) rfl)) (fun x5 x6 => x6 (nbq (nat_lit 16384) (nat_lit 2) rfl)) (fun x5 x6 => x6 (nbq (nat_lit 16384) (nat_lit 3) rfl)) (fun x5 x6 => x6 (nbq (nat_lit 16384) (nat_lit 4) rfl)) (fun x5 => x5 (nbq (nat_lit 16384) (nat_lit 5) rfl)) (fun x5 => x5 (nbq (nat_lit 16384) (nat_lit 6) rfl)) (fun x5 x6 => x6 (nbq (nat_lit 16384) (nat_lit 7) rfl)) (fun x5 x6 => x6 (nbq (nat_lit 16384) (nat_lit 8) rfl)) (fun x5 x6 x7 => x7 (nbq (nat_lit 16384) (nat_lit 9) rfl)) (fun x5 x6 x7 => x7 (nbq (nat_lit 16384) (nat_lit 10) rfl)) (fun x5 x6 x7 => x7 (nbq (nat_lit 16384) (nat_lit 11) rfl)) (fun x5 x6 => x6 (nbq (nat_lit 16384) (nat_lit 12) rfl)) (fun x5 x6 x7 x8 => x8 (nbq (nat_lit 16384) (nat_lit 13) rfl)) (fun x5 _ => @Option.none _) (fun x5 x6 => x6 (nbq (nat_lit 16384) (nat_lit 15) rfl)) (fun x5 x6 x7 => x7 (nbq (nat_lit 16384) (nat_lit 16) rfl)) x4 (fun _ => @AVal.rec.{1} (fun x6 => (((Nat.hasNotBit (nat_lit 24576) (AVal.ctorIdx x6)) → (Option AVal)) → (Option AVal))) (fun _ => PUnit) (fun x6 x7 => x7 (nbq (nat_lit 24576) (nat_lit 0) rfl)) (fun x6 x7 x8 => x8 (nbq (nat_lit 24576) (nat_lit 1) rfl)) (fun x6 x7 => x7 (nbq (nat_lit 24576) (nat_lit 2) rfl)) (fun x6 x7 x8 => x8 (nbq (nat_lit 24576) (nat_lit 3) rfl)) (fun x6 => x6 (nbq (nat_lit 24576) (nat_lit 4) rfl)) (fun x6 x7 x8 x9 x10 => x10 (nbq (nat_lit 24576) (nat_lit 5) rfl)) (fun x6 x7 x8 x9 x10 => x10 (nbq (nat_lit 24576) (nat_lit 6) rfl)) (fun x6 => x6 (nbq (nat_lit 24576) (nat_lit 7) rfl)) (fun x6 x7 => x7 (nbq (nat_lit 24576) (nat_lit 8) rfl)) (fun x6 => x6 (nbq (nat_lit 24576) (nat_lit 9) rfl)) (fun x6 x7 x8 _ _ x11 => x11 (nbq (nat_lit 24576) (nat_lit 10) rfl)) (fun x6 x7 => x7 (nbq (nat_lit 24576) (nat_lit 11) rfl)) (fun x6 => x6 (nbq (nat_lit 24576) (nat_lit 12) rfl)) (fun x6 x7 _ _ => FqAssert_0 x0 x1 x2 x6 x7) (fun _ => FqAssert_qFails x0 x2 x1) (fun x6 _ x8 => x8 (nbq (nat_lit 24576) (nat_lit 15) rfl)) (fun x6 _ x8 => x8 (nbq (nat_lit 24576) (nat_lit 16) rfl)) PUnit.unit (fun x6 _ _ _ => PUnit.unit) x3 (fun _ => @Option.none _)))
noncomputable def FqAssert_2 : (AProg → (Go.TypeId → (Bool → (AVal → (Option AVal))))) :=
  (fun x0 x1 x2 x3 => @Option.rec.{1, 0} _ (fun x4 => (((Nat.hasNotBit (nat_lit 2) (@Option.ctorIdx Go.TypeDesc x4)) → (Option AVal)) → (Option AVal))) (fun x4 => x4 (nbq (nat_lit 2) (nat_lit 0) rfl)) (fun x4 _ => FqAssert_1 x0 x1 x2 x3 x4) (Fund x0 x1) (fun _ => @Option.none _))
noncomputable def FqAssert : (AProg → (Env → (Go.Operand → (Go.TypeId → (Bool → (Option AVal)))))) :=
  (fun x0 x1 x2 x3 x4 => @Option.rec.{1, 0} _ (fun x5 => (((Nat.hasNotBit (nat_lit 2) (@Option.ctorIdx AVal x5)) → (Option AVal)) → (Option AVal))) (fun x5 => x5 (nbq (nat_lit 2) (nat_lit 0) rfl)) (fun x5 _ => FqAssert_2 x0 x3 x4 x5) (Faeval x1 x2) (fun _ => @Option.none _))
theorem FqAssert_eq : @FqAssert = @Go.Abs.qAssert := by
  delta FqAssert
  delta FqAssert_2
  delta FqAssert_1
  delta FqAssert_0
  rw [FqAssert_qFails_eq, Fund_eq, Faeval_eq]; kernel_rfl
noncomputable def FqExtract_0 : (Nat → (AVal → (Option AVal))) :=
  (fun x0 x1 => @AVal.rec.{1} (fun x2 => (((Nat.hasNotBit (nat_lit 65536) (AVal.ctorIdx x2)) → (Option AVal)) → (Option AVal))) (fun _ => PUnit) (fun x2 x3 => x3 (nbq (nat_lit 65536) (nat_lit 0) rfl)) (fun x2 x3 x4 => x4 (nbq (nat_lit 65536) (nat_lit 1) rfl)) (fun x2 x3 => x3 (nbq (nat_lit 65536) (nat_lit 2) rfl)) (fun x2 x3 x4 => x4 (nbq (nat_lit 65536) (nat_lit 3) rfl)) (fun x2 => x2 (nbq (nat_lit 65536) (nat_lit 4) rfl)) (fun x2 x3 x4 x5 x6 => x6 (nbq (nat_lit 65536) (nat_lit 5) rfl)) (fun x2 x3 x4 x5 x6 => x6 (nbq (nat_lit 65536) (nat_lit 6) rfl)) (fun x2 => x2 (nbq (nat_lit 65536) (nat_lit 7) rfl)) (fun x2 x3 => x3 (nbq (nat_lit 65536) (nat_lit 8) rfl)) (fun x2 => x2 (nbq (nat_lit 65536) (nat_lit 9) rfl)) (fun x2 x3 x4 _ _ x7 => x7 (nbq (nat_lit 65536) (nat_lit 10) rfl)) (fun x2 x3 => x3 (nbq (nat_lit 65536) (nat_lit 11) rfl)) (fun x2 => x2 (nbq (nat_lit 65536) (nat_lit 12) rfl)) (fun x2 x3 _ x5 => x5 (nbq (nat_lit 65536) (nat_lit 13) rfl)) (fun x2 => x2 (nbq (nat_lit 65536) (nat_lit 14) rfl)) (fun x2 _ x4 => x4 (nbq (nat_lit 65536) (nat_lit 15) rfl)) (fun x2 _ _ => Fnth AVal x0 x2) PUnit.unit (fun x2 _ _ _ => PUnit.unit) x1 (fun _ => @Option.none _))
noncomputable def FqExtract : (Env → (Go.Operand → (Nat → (Option AVal)))) :=
  (fun x0 x1 x2 => @Option.rec.{1, 0} _ (fun x3 => (((Nat.hasNotBit (nat_lit 2) (@Option.ctorIdx AVal x3)) → (Option AVal)) → (Option AVal))) (fun x3 => x3 (nbq (nat_lit 2) (nat_lit 0) rfl)) (fun x3 _ => FqExtract_0 x2 x3) (Faeval x0 x1) (fun _ => @Option.none _))
theorem FqExtract_eq : @FqExtract = @Go.Abs.qExtract := by
  delta FqExtract
  delta FqExtract_0
  rw [Fnth_eq, Faeval_eq]; kernel_rfl
noncomputable def FlenType_0 : (AVal → Bool) :=
  (fun x0 => @AVal.rec.{1} (fun x1 => (((Nat.hasNotBit (nat_lit 4) (AVal.ctorIdx x1)) → Bool) → Bool)) (fun _ => PUnit) (fun x1 x2 => x2 (nbq (nat_lit 4) (nat_lit 0) rfl)) (fun x1 x2 x3 => x3 (nbq (nat_lit 4) (nat_lit 1) rfl)) (fun x1 _ => Bool.true) (fun x1 x2 x3 => x3 (nbq (nat_lit 4) (nat_lit 3) rfl)) (fun x1 => x1 (nbq (nat_lit 4) (nat_lit 4) rfl)) (fun x1 x2 x3 x4 x5 => x5 (nbq (nat_lit 4) (nat_lit 5) rfl)) (fun x1 x2 x3 x4 x5 => x5 (nbq (nat_lit 4) (nat_lit 6) rfl)) (fun x1 => x1 (nbq (nat_lit 4) (nat_lit 7) rfl)) (fun x1 x2 => x2 (nbq (nat_lit 4) (nat_lit 8) rfl)) (fun x1 => x1 (nbq (nat_lit 4) (nat_lit 9) rfl)) (fun x1 x2 x3 _ _ x6 => x6 (nbq (nat_lit 4) (nat_lit 10) rfl)) (fun x1 x2 => x2 (nbq (nat_lit 4) (nat_lit 11) rfl)) (fun x1 => x1 (nbq (nat_lit 4) (nat_lit 12) rfl)) (fun x1 x2 _ x4 => x4 (nbq (nat_lit 4) (nat_lit 13) rfl)) (fun x1 => x1 (nbq (nat_lit 4) (nat_lit 14) rfl)) (fun x1 _ x3 => x3 (nbq (nat_lit 4) (nat_lit 15) rfl)) (fun x1 _ x3 => x3 (nbq (nat_lit 4) (nat_lit 16) rfl)) PUnit.unit (fun x1 _ _ _ => PUnit.unit) x0 (fun _ => Bool.false))
noncomputable def FlenType_1 : (AVal → Bool) :=
  (fun x0 => @AVal.rec.{1} (fun x1 => (((Nat.hasNotBit (nat_lit 224) (AVal.ctorIdx x1)) → Bool) → Bool)) (fun _ => PUnit) (fun x1 x2 => x2 (nbq (nat_lit 224) (nat_lit 0) rfl)) (fun x1 x2 x3 => x3 (nbq (nat_lit 224) (nat_lit 1) rfl)) (fun x1 x2 => x2 (nbq (nat_lit 224) (nat_lit 2) rfl)) (fun x1 x2 x3 => x3 (nbq (nat_lit 224) (nat_lit 3) rfl)) (fun x1 => x1 (nbq (nat_lit 224) (nat_lit 4) rfl)) (fun x1 x2 x3 x4 _ => Bool.true) (fun x1 x2 x3 x4 _ => Bool.true) (fun _ => Bool.true) (fun x1 x2 => x2 (nbq (nat_lit 224) (nat_lit 8) rfl)) (fun x1 => x1 (nbq (nat_lit 224) (nat_lit 9) rfl)) (fun x1 x2 x3 _ _ x6 => x6 (nbq (nat_lit 224) (nat_lit 10) rfl)) (fun x1 x2 => x2 (nbq (nat_lit 224) (nat_lit 11) rfl)) (fun x1 => x1 (nbq (nat_lit 224) (nat_lit 12) rfl)) (fun x1 x2 _ x4 => x4 (nbq (nat_lit 224) (nat_lit 13) rfl)) (fun x1 => x1 (nbq (nat_lit 224) (nat_lit 14) rfl)) (fun x1 _ x3 => x3 (nbq (nat_lit 224) (nat_lit 15) rfl)) (fun x1 _ x3 => x3 (nbq (nat_lit 224) (nat_lit 16) rfl)) PUnit.unit (fun x1 _ _ _ => PUnit.unit) x0 (fun _ => Bool.false))
noncomputable def FlenType_2 : (AVal → Bool) :=
  (fun x0 => @AVal.rec.{1} (fun x1 => (((Nat.hasNotBit (nat_lit 768) (AVal.ctorIdx x1)) → Bool) → Bool)) (fun _ => PUnit) (fun x1 x2 => x2 (nbq (nat_lit 768) (nat_lit 0) rfl)) (fun x1 x2 x3 => x3 (nbq (nat_lit 768) (nat_lit 1) rfl)) (fun x1 x2 => x2 (nbq (nat_lit 768) (nat_lit 2) rfl)) (fun x1 x2 x3 => x3 (nbq (nat_lit 768) (nat_lit 3) rfl)) (fun x1 => x1 (nbq (nat_lit 768) (nat_lit 4) rfl)) (fun x1 x2 x3 x4 x5 => x5 (nbq (nat_lit 768) (nat_lit 5) rfl)) (fun x1 x2 x3 x4 x5 => x5 (nbq (nat_lit 768) (nat_lit 6) rfl)) (fun x1 => x1 (nbq (nat_lit 768) (nat_lit 7) rfl)) (fun x1 _ => Bool.true) (fun _ => Bool.true) (fun x1 x2 x3 _ _ x6 => x6 (nbq (nat_lit 768) (nat_lit 10) rfl)) (fun x1 x2 => x2 (nbq (nat_lit 768) (nat_lit 11) rfl)) (fun x1 => x1 (nbq (nat_lit 768) (nat_lit 12) rfl)) (fun x1 x2 _ x4 => x4 (nbq (nat_lit 768) (nat_lit 13) rfl)) (fun x1 => x1 (nbq (nat_lit 768) (nat_lit 14) rfl)) (fun x1 _ x3 => x3 (nbq (nat_lit 768) (nat_lit 15) rfl)) (fun x1 _ x3 => x3 (nbq (nat_lit 768) (nat_lit 16) rfl)) PUnit.unit (fun x1 _ _ _ => PUnit.unit) x0 (fun _ => Bool.false))
noncomputable def FlenType_3 : (AVal → (Go.TypeDesc → Bool)) :=
  (fun x0 x1 => @Go.TypeDesc.rec.{1} (fun x2 => (((Nat.hasNotBit (nat_lit 1312) (Go.TypeDesc.ctorIdx x2)) → Bool) → Bool)) (fun x2 => x2 (nbq (nat_lit 1312) (nat_lit 0) rfl)) (fun x2 => x2 (nbq (nat_lit 1312) (nat_lit 1) rfl)) (fun x2 x3 => x3 (nbq (nat_lit 1312) (nat_lit 2) rfl)) (fun x2 x3 => x3 (nbq (nat_lit 1312) (nat_lit 3) rfl)) (fun x2 x3 => x3 (nbq (nat_lit 1312) (nat_lit 4) rfl)) (fun _ => FlenType_0 x0) (fun x2 => x2 (nbq (nat_lit 1312) (nat_lit 6) rfl)) (fun x2 x3 => x3 (nbq (nat_lit 1312) (nat_lit 7) rfl)) (fun x2 _ => FlenType_1 x0) (fun x2 x3 x4 => x4 (nbq (nat_lit 1312) (nat_lit 9) rfl)) (fun x2 x3 _ => FlenType_2 x0) (fun x2 x3 x4 => x4 (nbq (nat_lit 1312) (nat_lit 11) rfl)) (fun x2 x3 => x3 (nbq (nat_lit 1312) (nat_lit 12) rfl)) (fun x2 x3 x4 x5 => x5 (nbq (nat_lit 1312) (nat_lit 13) rfl)) (fun x2 x3 => x3 (nbq (nat_lit 1312) (nat_lit 14) rfl)) (fun x2 x3 => x3 (nbq (nat_lit 1312) (nat_lit 15) rfl)) (fun x2 x3 x4 => x4 (nbq (nat_lit 1312) (nat_lit 16) rfl)) x1 (fun _ => Bool.false))
noncomputable def FlenType : (AProg → (Go.TypeId → (AVal → Bool))) :=
  (fun x0 x1 x2 => @Option.rec.{1, 0} _ (fun x3 => (((Nat.hasNotBit (nat_lit 2) (@Option.ctorIdx Go.TypeDesc x3)) → Bool) → Bool)) (fun x3 => x3 (nbq (nat_lit 2) (nat_lit 0) rfl)) (fun x3 _ => FlenType_3 x2 x3) (Fund x0 x1) (fun _ => Bool.false))
theorem FlenType_eq : @FlenType = @Go.Abs.lenType := by
  delta FlenType
  delta FlenType_3
  delta FlenType_2
  delta FlenType_1
  delta FlenType_0
  rw [Fund_eq]; kernel_rfl
noncomputable def FqLen_0 : (Pos → ((List (PTree AObj)) → (Heap → (Option AVal)))) :=
  (fun x0 x1 x2 => @Option.rec.{1, 0} _ (fun _ => Option AVal) (@Option.none _) (fun x3 => @Prod.rec.{1, 0, 0} _ _ (fun _ => Option AVal) (fun x4 _ => @Option.some _ (AVal.int Go.IntKind.i64 (Int.ofNat (FList_length AEntry x4)))) x3) (FmapAt x1 x2 x0))
noncomputable def FqLen : ((List (PTree AObj)) → (Heap → (AVal → (Option AVal)))) :=
  (fun x0 x1 x2 => @AVal.rec.{1} (fun _ => ((List (PTree AObj)) → (Heap → (Option AVal)))) (fun _ => PUnit) (fun _ _ _ => @Option.none _) (fun _ _ _ _ => @Option.none _) (fun x3 _ _ => @Option.some _ (AVal.int Go.IntKind.i64 (Int.ofNat (FList_length Nat x3)))) (fun _ _ _ _ => @Option.none _) (fun _ _ => @Option.none _) (fun _ _ x5 _ _ _ => @Option.some _ (AVal.int Go.IntKind.i64 (Int.ofNat x5))) (fun _ _ x5 _ _ _ => @Option.some _ (AVal.int Go.IntKind.i64 (Int.ofNat x5))) (fun _ _ => @Option.some _ (AVal.int Go.IntKind.i64 (Int.ofNat (nat_lit 0)))) (fun x3 x4 x5 => FqLen_0 x3 x4 x5) (fun _ _ => @Option.some _ (AVal.int Go.IntKind.i64 (Int.ofNat (nat_lit 0)))) (fun _ _ _ _ _ _ _ => @Option.none _) (fun _ _ _ => @Option.none _) (fun _ _ => @Option.none _) (fun _ x4 _ _ _ => @Option.none _) (fun _ _ => @Option.none _) (fun _ _ _ _ => @Option.none _) (fun _ _ _ _ => @Option.none _) PUnit.unit (fun x3 _ _ _ => PUnit.unit) x2 x0 x1)
theorem FqLen_eq : @FqLen = @Go.Abs.qLen := by
  delta FqLen
  delta FqLen_0
  rw [FList_length_eq, FmapAt_eq]; funext p0 p1 p2; cases p2 <;> kernel_rfl
noncomputable def FqBuiltin_0 : (AVal → (Option AVal)) :=
  (fun x0 => @AVal.rec.{1} (fun x1 => (((Nat.hasNotBit (nat_lit 160) (AVal.ctorIdx x1)) → (Option AVal)) → (Option AVal))) (fun _ => PUnit) (fun x1 x2 => x2 (nbq (nat_lit 160) (nat_lit 0) rfl)) (fun x1 x2 x3 => x3 (nbq (nat_lit 160) (nat_lit 1) rfl)) (fun x1 x2 => x2 (nbq (nat_lit 160) (nat_lit 2) rfl)) (fun x1 x2 x3 => x3 (nbq (nat_lit 160) (nat_lit 3) rfl)) (fun x1 => x1 (nbq (nat_lit 160) (nat_lit 4) rfl)) (fun x1 x2 x3 x4 _ => @Option.some _ (AVal.int Go.IntKind.i64 (Int.ofNat x4))) (fun x1 x2 x3 x4 x5 => x5 (nbq (nat_lit 160) (nat_lit 6) rfl)) (fun _ => @Option.some _ (AVal.int Go.IntKind.i64 (Int.ofNat (nat_lit 0)))) (fun x1 x2 => x2 (nbq (nat_lit 160) (nat_lit 8) rfl)) (fun x1 => x1 (nbq (nat_lit 160) (nat_lit 9) rfl)) (fun x1 x2 x3 _ _ x6 => x6 (nbq (nat_lit 160) (nat_lit 10) rfl)) (fun x1 x2 => x2 (nbq (nat_lit 160) (nat_lit 11) rfl)) (fun x1 => x1 (nbq (nat_lit 160) (nat_lit 12) rfl)) (fun x1 x2 _ x4 => x4 (nbq (nat_lit 160) (nat_lit 13) rfl)) (fun x1 => x1 (nbq (nat_lit 160) (nat_lit 14) rfl)) (fun x1 _ x3 => x3 (nbq (nat_lit 160) (nat_lit 15) rfl)) (fun x1 _ x3 => x3 (nbq (nat_lit 160) (nat_lit 16) rfl)) PUnit.unit (fun x1 _ _ _ => PUnit.unit) x0 (fun _ => @Option.none _))
noncomputable def FqBuiltin_1 : (Env → (Go.Operand → (Go.TypeDesc → (Option AVal)))) :=
  (fun x0 x1 x2 => @Go.TypeDesc.rec.{1} (fun x3 => (((Nat.hasNotBit (nat_lit 256) (Go.TypeDesc.ctorIdx x3)) → (Option AVal)) → (Option AVal))) (fun x3 => x3 (nbq (nat_lit 256) (nat_lit 0) rfl)) (fun x3 => x3 (nbq (nat_lit 256) (nat_lit 1) rfl)) (fun x3 x4 => x4 (nbq (nat_lit 256) (nat_lit 2) rfl)) (fun x3 x4 => x4 (nbq (nat_lit 256) (nat_lit 3) rfl)) (fun x3 x4 => x4 (nbq (nat_lit 256) (nat_lit 4) rfl)) (fun x3 => x3 (nbq (nat_lit 256) (nat_lit 5) rfl)) (fun x3 => x3 (nbq (nat_lit 256) (nat_lit 6) rfl)) (fun x3 x4 => x4 (nbq (nat_lit 256) (nat_lit 7) rfl)) (fun x3 _ => @Option.rec.{1, 0} _ (fun x5 => (((Nat.hasNotBit (nat_lit 2) (@Option.ctorIdx AVal x5)) → (Option AVal)) → (Option AVal))) (fun x5 => x5 (nbq (nat_lit 2) (nat_lit 0) rfl)) (fun x5 _ => FqBuiltin_0 x5) (Faeval x0 x1) (fun _ => @Option.none _)) (fun x3 x4 x5 => x5 (nbq (nat_lit 256) (nat_lit 9) rfl)) (fun x3 x4 x5 => x5 (nbq (nat_lit 256) (nat_lit 10) rfl)) (fun x3 x4 x5 => x5 (nbq (nat_lit 256) (nat_lit 11) rfl)) (fun x3 x4 => x4 (nbq (nat_lit 256) (nat_lit 12) rfl)) (fun x3 x4 x5 x6 => x6 (nbq (nat_lit 256) (nat_lit 13) rfl)) (fun x3 x4 => x4 (nbq (nat_lit 256) (nat_lit 14) rfl)) (fun x3 x4 => x4 (nbq (nat_lit 256) (nat_lit 15) rfl)) (fun x3 x4 x5 => x5 (nbq (nat_lit 256) (nat_lit 16) rfl)) x2 (fun _ => @Option.none _))
noncomputable def FqBuiltin_2 : (AProg → (Env → (Go.TypeId → (Go.Operand → ((List Go.Operand) → (Option AVal)))))) :=
  (fun x0 x1 x2 x3 x4 => @List.rec.{1, 0} _ (fun x5 => (((Nat.hasNotBit (nat_lit 1) (@List.ctorIdx Go.Operand x5)) → (Option AVal)) → (Option AVal))) (fun _ => @Option.rec.{1, 0} _ (fun x6 => (((Nat.hasNotBit (nat_lit 2) (@Option.ctorIdx Go.TypeDesc x6)) → (Option AVal)) → (Option AVal))) (fun x6 => x6 (nbq (nat_lit 2) (nat_lit 0) rfl)) (fun x6 _ => FqBuiltin_1 x1 x3 x6) (Fund x0 x2) (fun _ => @Option.none _)) (fun x5 x6 _ x8 => x8 (nbq (nat_lit 1) (nat_lit 1) rfl)) x4 (fun _ => @Option.none _))
noncomputable def FqBuiltin_3 : (AProg → (Env → ((List Go.Operand) → (Go.TypeId → (Option AVal))))) :=
  (fun x0 x1 x2 x3 => @List.rec.{1, 0} _ (fun x4 => (((Nat.hasNotBit (nat_lit 2) (@List.ctorIdx Go.Operand x4)) → (Option AVal)) → (Option AVal))) (fun x4 => x4 (nbq (nat_lit 2) (nat_lit 0) rfl)) (fun x4 x5 _ _ => FqBuiltin_2 x0 x1 x3 x4 x5) x2 (fun _ => @Option.none _))
noncomputable def FqBuiltin_4 : (AProg → ((List (PTree AObj)) → (Env → (Heap → (Go.TypeId → (Go.Operand → ((List Go.Operand) → (Option AVal)))))))) :=
  (fun x0 x1 x2 x3 x4 x5 x6 => @List.rec.{1, 0} _ (fun x7 => (((Nat.hasNotBit (nat_lit 1) (@List.ctorIdx Go.Operand x7)) → (Option AVal)) → (Option AVal))) (fun _ => @Option.rec.{1, 0} _ (fun _ => Option AVal) (@Option.none _) (fun x8 => @Bool.rec.{1} (fun _ => Option AVal) (@Option.none _) (FqLen x1 x3 x8) (FlenType x0 x4 x8)) (Faeval x2 x5)) (fun x7 x8 _ x10 => x10 (nbq (nat_lit 1) (nat_lit 1) rfl)) x6 (fun _ => @Option.none _))
noncomputable def FqBuiltin_5 : (AProg → ((List (PTree AObj)) → (Env → (Heap → ((List Go.Operand) → (Go.TypeId → (Option AVal))))))) :=
  (fun x0 x1 x2 x3 x4 x5 => @List.rec.{1, 0} _ (fun x6 => (((Nat.hasNotBit (nat_lit 2) (@List.ctorIdx Go.Operand x6)) → (Option AVal)) → (Option AVal))) (fun x6 => x6 (nbq (nat_lit 2) (nat_lit 0) rfl)) (fun x6 x7 _ _ => FqBuiltin_4 x0 x1 x2 x3 x5 x6 x7) x4 (fun _ => @Option.none _))
noncomputable def FqBuiltin_6 : (AProg → ((List (PTree AObj)) → (Env → (Heap → ((List Go.TypeId) → ((List Go.Operand) → (Option AVal))))))) :=
  (fun x0 x1 x2 x3 x4 x5 => @List.rec.{1, 0} _ (fun x6 => (((Nat.hasNotBit (nat_lit 2) (@List.ctorIdx Go.TypeId x6)) → (Option AVal)) → (Option AVal))) (fun x6 => x6 (nbq (nat_lit 2) (nat_lit 0) rfl)) (fun x6 x7 _ _ => FqBuiltin_5 x0 x1 x2 x3 x5 x6) x4 (fun _ => @Option.none _))
noncomputable def FqBuiltin_7 : (Go.IntKind → (Int → (AVal → (Option AVal)))) :=
  (fun x0 x1 x2 => @AVal.rec.{1} (fun x3 => (((Nat.hasNotBit (nat_lit 2) (AVal.ctorIdx x3)) → (Option AVal)) → (Option AVal))) (fun _ => PUnit) (fun x3 x4 => x4 (nbq (nat_lit 2) (nat_lit 0) rfl)) (fun x3 x4 _ => @Option.some _ (AVal.int x0 (@Bool.rec.{1} (fun _ => Int) x4 x1 (FleInt x4 x1)))) (fun x3 x4 => x4 (nbq (nat_lit 2) (nat_lit 2) rfl)) (fun x3 x4 x5 => x5 (nbq (nat_lit 2) (nat_lit 3) rfl)) (fun x3 => x3 (nbq (nat_lit 2) (nat_lit 4) rfl)) (fun x3 x4 x5 x6 x7 => x7 (nbq (nat_lit 2) (nat_lit 5) rfl)) (fun x3 x4 x5 x6 x7 => x7 (nbq (nat_lit 2) (nat_lit 6) rfl)) (fun x3 => x3 (nbq (nat_lit 2) (nat_lit 7) rfl)) (fun x3 x4 => x4 (nbq (nat_lit 2) (nat_lit 8) rfl)) (fun x3 => x3 (nbq (nat_lit 2) (nat_lit 9) rfl)) (fun x3 x4 x5 _ _ x8 => x8 (nbq (nat_lit 2) (nat_lit 10) rfl)) (fun x3 x4 => x4 (nbq (nat_lit 2) (nat_lit 11) rfl)) (fun x3 => x3 (nbq (nat_lit 2) (nat_lit 12) rfl)) (fun x3 x4 _ x6 => x6 (nbq (nat_lit 2) (nat_lit 13) rfl)) (fun x3 => x3 (nbq (nat_lit 2) (nat_lit 14) rfl)) (fun x3 _ x5 => x5 (nbq (nat_lit 2) (nat_lit 15) rfl)) (fun x3 _ x5 => x5 (nbq (nat_lit 2) (nat_lit 16) rfl)) PUnit.unit (fun x3 _ _ _ => PUnit.unit) x2 (fun _ => @Option.none _))
noncomputable def FqBuiltin_8 : (Env → (Go.Operand → (AVal → (Option AVal)))) :=
  (fun x0 x1 x2 => @AVal.rec.{1} (fun x3 => (((Nat.hasNotBit (nat_lit 2) (AVal.ctorIdx x3)) → (Option AVal)) → (Option AVal))) (fun _ => PUnit) (fun x3 x4 => x4 (nbq (nat_lit 2) (nat_lit 0) rfl)) (fun x3 x4 _ => @Option.rec.{1, 0} _ (fun x6 => (((Nat.hasNotBit (nat_lit 2) (@Option.ctorIdx AVal x6)) → (Option AVal)) → (Option AVal))) (fun x6 => x6 (nbq (nat_lit 2) (nat_lit 0) rfl)) (fun x6 _ => FqBuiltin_7 x3 x4 x6) (Faeval x0 x1) (fun _ => @Option.none _)) (fun x3 x4 => x4 (nbq (nat_lit 2) (nat_lit 2) rfl)) (fun x3 x4 x5 => x5 (nbq (nat_lit 2) (nat_lit 3) rfl)) (fun x3 => x3 (nbq (nat_lit 2) (nat_lit 4) rfl)) (fun x3 x4 x5 x6 x7 => x7 (nbq (nat_lit 2) (nat_lit 5) rfl)) (fun x3 x4 x5 x6 x7 => x7 (nbq (nat_lit 2) (nat_lit 6) rfl)) (fun x3 => x3 (nbq (nat_lit 2) (nat_lit 7) rfl)) (fun x3 x4 => x4 (nbq (nat_lit 2) (nat_lit 8) rfl)) (fun x3 => x3 (nbq (nat_lit 2) (nat_lit 9) rfl)) (fun x3 x4 x5 _ _ x8 => x8 (nbq (nat_lit 2) (nat_lit 10) rfl)) (fun x3 x4 => x4 (nbq (nat_lit 2) (nat_lit 11) rfl)) (fun x3 => x3 (nbq (nat_lit 2) (nat_lit 12) rfl)) (fun x3 x4 _ x6 => x6 (nbq (nat_lit 2) (nat_lit 13) rfl)) (fun x3 => x3 (nbq (nat_lit 2) (nat_lit 14) rfl)) (fun x3 _ x5 => x5 (nbq (nat_lit 2) (nat_lit 15) rfl)) (fun x3 _ x5 => x5 (nbq (nat_lit 2) (nat_lit 16) rfl)) PUnit.unit (fun x3 _ _ _ => PUnit.unit) x2 (fun _ => @Option.none _))
noncomputable def FqBuiltin_9 : (Env → (Go.Operand → (Go.Operand → ((List Go.Operand) → (Option AVal))))) :=
  (fun x0 x1 x2 x3 => @List.rec.{1, 0} _ (fun x4 => (((Nat.hasNotBit (nat_lit 1) (@List.ctorIdx Go.Operand x4)) → (Option AVal)) → (Option AVal))) (fun _ => @Option.rec.{1, 0} _ (fun x5 => (((Nat.hasNotBit (nat_lit 2) (@Option.ctorIdx AVal x5)) → (Option AVal)) → (Option AVal))) (fun x5 => x5 (nbq (nat_lit 2) (nat_lit 0) rfl)) (fun x5 _ => FqBuiltin_8 x0 x2 x5) (Faeval x0 x1) (fun _ => @Option.none _)) (fun x4 x5 _ x7 => x7 (nbq (nat_lit 1) (nat_lit 1) rfl)) x3 (fun _ => @Option.none _))
noncomputable def FqBuiltin_10 : (Env → ((List Go.Operand) → (Option AVal))) :=
  (fun x0 x1 => @List.rec.{1, 0} _ (fun x2 => (((Nat.hasNotBit (nat_lit 2) (@List.ctorIdx Go.Operand x2)) → (Option AVal)) → (Option AVal))) (fun x2 => x2 (nbq (nat_lit 2) (nat_lit 0) rfl)) (fun x2 x3 _ _ => @List.rec.{1, 0} _ (fun x6 => (((Nat.hasNotBit (nat_lit 2) (@List.ctorIdx Go.Operand x6)) → (Option AVal)) → (Option AVal))) (fun x6 => x6 (nbq (nat_lit 2) (nat_lit 0) rfl)) (fun x6 x7 _ _ => FqBuiltin_9 x0 x2 x6 x7) x3 (fun _ => @Option.none _)) x1 (fun _ => @Option.none _))
noncomputable def FqBuiltin_11 : (Go.IntKind → (Int → (AVal → (Option AVal)))) :=
  (fun x0 x1 x2 => @AVal.rec.{1} (fun x3 => (((Nat.hasNotBit (nat_lit 2) (AVal.ctorIdx x3)) → (Option AVal)) → (Option AVal))) (fun _ => PUnit) (fun x3 x4 => x4 (nbq (nat_lit 2) (nat_lit 0) rfl)) (fun x3 x4 _ => @Option.some _ (AVal.int x0 (@Bool.rec.{1} (fun _ => Int) x4 x1 (FleInt x1 x4)))) (fun x3 x4 => x4 (nbq (nat_lit 2) (nat_lit 2) rfl)) (fun x3 x4 x5 => x5 (nbq (nat_lit 2) (nat_lit 3) rfl)) (fun x3 => x3 (nbq (nat_lit 2) (nat_lit 4) rfl)) (fun x3 x4 x5 x6 x7 => x7 (nbq (nat_lit 2) (nat_lit 5) rfl)) (fun x3 x4 x5 x6 x7 => x7 (nbq (nat_lit 2) (nat_lit 6) rfl)) (fun x3 => x3 (nbq (nat_lit 2) (nat_lit 7) rfl)) (fun x3 x4 => x4 (nbq (nat_lit 2) (nat_lit 8) rfl)) (fun x3 => x3 (nbq (nat_lit 2) (nat_lit 9) rfl)) (fun x3 x4 x5 _ _ x8 => x8 (nbq (nat_lit 2) (nat_lit 10) rfl)) (fun x3 x4 => x4 (nbq (nat_lit 2) (nat_lit 11) rfl)) (fun x3 => x3 (nbq (nat_lit 2) (nat_lit 12) rfl)) (fun x3 x4 _ x6 => x6 (nbq (nat_lit 2) (nat_lit 13) rfl)) (fun x3 => x3 (nbq (nat_lit 2) (nat_lit 14) rfl)) (fun x3 _ x5 => x5 (nbq (nat_lit 2) (nat_lit 15) rfl)) (fun x3 _ x5 => x5 (nbq (nat_lit 2) (nat_lit 16) rfl)) PUnit.unit (fun x3 _ _ _ => PUnit.unit) x2 (fun _ => @Option.none _))
noncomputable def FqBuiltin_12 : (Env → (Go.Operand → (AVal → (Option AVal)))) :=
  (fun x0 x1 x2 => @AVal.rec.{1} (fun x3 => (((Nat.hasNotBit (nat_lit 2) (AVal.ctorIdx x3)) → (Option AVal)) → (Option AVal))) (fun _ => PUnit) (fun x3 x4 => x4 (nbq (nat_lit 2) (nat_lit 0) rfl)) (fun x3 x4 _ => @Option.rec.{1, 0} _ (fun x6 => (((Nat.hasNotBit (nat_lit 2) (@Option.ctorIdx AVal x6)) → (Option AVal)) → (Option AVal))) (fun x6 => x6 (nbq (nat_lit 2) (nat_lit 0) rfl)) (fun x6 _ => FqBuiltin_11 x3 x4 x6) (Faeval x0 x1) (fun _ => @Option.none _)) (fun x3 x4 => x4 (nbq (nat_lit 2) (nat_lit 2) rfl)) (fun x3 x4 x5 => x5 (nbq (nat_lit 2) (nat_lit 3) rfl)) (fun x3 => x3 (nbq (nat_lit 2) (nat_lit 4) rfl)) (fun x3 x4 x5 x6 x7 => x7 (nbq (nat_lit 2) (nat_lit 5) rfl)) (fun x3 x4 x5 x6 x7 => x7 (nbq (nat_lit 2) (nat_lit 6) rfl)) (fun x3 => x3 (nbq (nat_lit 2) (nat_lit 7) rfl)) (fun x3 x4 => x4 (nbq (nat_lit 2) (nat_lit 8) rfl)) (fun x3 => x3 (nbq (nat_lit 2) (nat_lit 9) rfl)) (fun x3 x4 x5 _ _ x8 => x8 (nbq (nat_lit 2) (nat_lit 10) rfl)) (fun x3 x4 => x4 (nbq (nat_lit 2) (nat_lit 11) rfl)) (fun x3 => x3 (nbq (nat_lit 2) (nat_lit 12) rfl)) (fun x3 x4 _ x6 => x6 (nbq (nat_lit 2) (nat_lit 13) rfl)) (fun x3 => x3 (nbq (nat_lit 2) (nat_lit 14) rfl)) (fun x3 _ x5 => x5 (nbq (nat_lit 2) (nat_lit 15) rfl)) (fun x3 _ x5 => x5 (nbq (nat_lit 2) (nat_lit 16) rfl)) PUnit.unit (fun x3 _ _ _ => PUnit.unit) x2 (fun _ => @Option.none _))
noncomputable def FqBuiltin_13 : (Env → (Go.Operand → (Go.Operand → ((List Go.Operand) → (Option AVal))))) :=
  (fun x0 x1 x2 x3 => @List.rec.{1, 0} _ (fun x4 => (((Nat.hasNotBit (nat_lit 1) (@List.ctorIdx Go.Operand x4)) → (Option AVal)) → (Option AVal))) (fun _ => @Option.rec.{1, 0} _ (fun x5 => (((Nat.hasNotBit (nat_lit 2) (@Option.ctorIdx AVal x5)) → (Option AVal)) → (Option AVal))) (fun x5 => x5 (nbq (nat_lit 2) (nat_lit 0) rfl)) (fun x5 _ => FqBuiltin_12 x0 x2 x5) (Faeval x0 x1) (fun _ => @Option.none _)) (fun x4 x5 _ x7 => x7 (nbq (nat_lit 1) (nat_lit 1) rfl)) x3 (fun _ => @Option.none _))
noncomputable def FqBuiltin_14 : (Env → ((List Go.Operand) → (Option AVal))) :=
  (fun x0 x1 => @List.rec.{1, 0} _ (fun x2 => (((Nat.hasNotBit (nat_lit 2) (@List.ctorIdx Go.Operand x2)) → (Option AVal)) → (Option AVal))) (fun x2 => x2 (nbq (nat_lit 2) (nat_lit 0) rfl)) (fun x2 x3 _ _ => @List.rec.{1, 0} _ (fun x6 => (((Nat.hasNotBit (nat_lit 2) (@List.ctorIdx Go.Operand x6)) → (Option AVal)) → (Option AVal))) (fun x6 => x6 (nbq (nat_lit 2) (nat_lit 0) rfl)) (fun x6 x7 _ _ => FqBuiltin_13 x0 x2 x6 x7) x3 (fun _ => @Option.none _)) x1 (fun _ => @Option.none _))
noncomputable def FqBuiltin : (AProg → ((List (PTree AObj)) → (Env → (Heap → (Go.Builtin → ((List Go.TypeId) → ((List Go.Operand) → (Option AVal)))))))) :=
  (fun x0 x1 x2 x3 x4 x5 x6 => @Go.Builtin.rec.{1} (fun _ => (AProg → ((List (PTree AObj)) → (Env → (Heap → ((List Go.TypeId) → ((List Go.Operand) → (Option AVal)))))))) (fun _ _ _ _ _ _ => @Option.none _) (fun x7 _ x9 _ x11 x12 => @List.rec.{1, 0} _ (fun x13 => (((Nat.hasNotBit (nat_lit 2) (@List.ctorIdx Go.TypeId x13)) → (Option AVal)) → (Option AVal))) (fun x13 => x13 (nbq (nat_lit 2) (nat_lit 0) rfl)) (fun x13 x14 _ _ => FqBuiltin_3 x7 x9 x12 x13) x11 (fun _ => @Option.none _)) (fun _ _ _ _ _ _ => @Option.none _) (fun _ _ _ _ _ _ => @Option.none _) (fun _ _ _ _ _ _ => @Option.none _) (fun _ _ _ _ _ _ => @Option.none _) (fun _ _ _ _ _ _ => @Option.none _) (fun _ _ _ _ _ _ => @Option.none _) (fun x7 x8 x9 x10 x11 x12 => FqBuiltin_6 x7 x8 x9 x10 x11 x12) (fun _ _ _ _ _ _ => @Option.none _) (fun _ _ x9 _ _ x12 => FqBuiltin_10 x9 x12) (fun _ _ x9 _ _ x12 => FqBuiltin_14 x9 x12) (fun _ _ _ _ _ _ => @Option.none _) (fun _ _ _ _ _ _ => @Option.none _) (fun _ _ _ _ _ _ => @Option.none _) (fun _ _ _ _ _ _ => @Option.none _) (fun _ _ _ _ _ _ => @Option.none _) (fun _ _ _ _ _ _ => @Option.none _) (fun _ _ _ _ _ _ => @Option.none _) (fun _ _ _ _ _ _ => @Option.none _) (fun _ _ _ _ _ _ => @Option.none _) (fun _ _ _ _ _ _ => @Option.none _) (fun _ _ _ _ _ _ => @Option.none _) (fun _ _ _ _ _ _ => @Option.none _) (fun _ _ _ _ _ _ => @Option.none _) (fun _ _ _ _ _ _ => @Option.none _) x4 x0 x1 x2 x3 x5 x6)
theorem FqBuiltin_eq : @FqBuiltin = @Go.Abs.qBuiltin := by
  delta FqBuiltin
  delta FqBuiltin_14
  delta FqBuiltin_13
  delta FqBuiltin_12
  delta FqBuiltin_11
  delta FqBuiltin_10
  delta FqBuiltin_9
  delta FqBuiltin_8
  delta FqBuiltin_7
  delta FqBuiltin_6
  delta FqBuiltin_5
  delta FqBuiltin_4
  delta FqBuiltin_3
  delta FqBuiltin_2
  delta FqBuiltin_1
  delta FqBuiltin_0
  rw [Faeval_eq, Fund_eq, FqLen_eq, FlenType_eq, FleInt_eq]; funext p0 p1 p2 p3 p4 p5 p6; cases p4 <;> kernel_rfl
noncomputable def FqCall : (AProg → ((List (PTree AObj)) → (Env → (Heap → (Go.Call → (Option AVal)))))) :=
  (fun x0 x1 x2 x3 x4 => @Go.Callee.rec.{1} (fun x5 => (((Nat.hasNotBit (nat_lit 4) (Go.Callee.ctorIdx x5)) → (Option AVal)) → (Option AVal))) (fun x5 x6 => x6 (nbq (nat_lit 4) (nat_lit 0) rfl)) (fun x5 x6 x7 => x7 (nbq (nat_lit 4) (nat_lit 1) rfl)) (fun x5 _ => FqBuiltin x0 x1 x2 x3 x5 (@Array.toList Go.TypeId (Go.Call.argTypes x4)) (@Array.toList Go.Operand (Go.Call.args x4))) (Go.Call.callee x4) (fun _ => @Option.none _))
theorem FqCall_eq : @FqCall = @Go.Abs.qCall := by
  delta FqCall
  rw [FqBuiltin_eq]; kernel_rfl
noncomputable def Fquiet : (AProg → ((List (PTree AObj)) → (Env → (Heap → (Go.Op → (Option AVal)))))) :=
  (fun x0 x1 x2 x3 x4 => @Go.Op.rec.{1} (fun _ => (AProg → ((List (PTree AObj)) → (Env → (Heap → (Option AVal)))))) (fun x5 _ _ x8 _ => Faeval x8 x5) (fun x5 _ _ x8 _ => Faeval x8 x5) (fun x5 x6 x7 _ _ x10 _ => FqPick x10 x5 x6 x7) (fun _ _ _ _ _ => @Option.none _) (fun _ _ _ _ _ _ => @Option.none _) (fun x5 x6 x7 _ x9 _ => FqBuild x7 x9 x5 x6) (fun _ _ _ _ _ _ _ => @Option.none _) (fun _ _ _ _ _ _ _ _ => @Option.none _) (fun x5 x6 x7 x8 x9 x10 => FqLoad x7 x8 x9 x10 x5 x6) (fun _ _ _ _ _ _ _ => @Option.none _) (fun _ _ _ _ _ => @Option.none _) (fun _ _ _ _ _ => @Option.none _) (fun x5 _ _ x8 _ => FqNilCheck x8 x5) (fun x5 x6 x7 x8 _ x10 x11 x12 x13 => FqBin x10 x11 x12 x13 x5 x6 x7 x8) (fun x5 _ x7 _ _ x10 _ => FqUn x10 x5 x7) (fun x5 x6 x7 x8 x9 x10 x11 => FqConv x8 x9 x10 x11 x5 x6 x7) (fun _ _ _ _ _ _ => @Option.none _) (fun x5 x6 x7 _ x9 _ => FqIface x7 x9 x5 x6) (fun x5 x6 x7 _ _ x10 _ => FqFunc x10 x5 x6 x7) (fun _ _ _ _ _ _ => @Option.none _) (fun _ _ _ _ _ _ => @Option.none _) (fun _ _ _ _ _ _ _ => @Option.none _) (fun x5 x6 x7 x8 x9 x10 _ x12 _ => FqSlice x10 x12 x5 x6 x7 x8 x9) (fun x5 x6 x7 x8 _ x10 _ => FqFieldAddr x8 x10 x5 x6 x7) (fun x5 x6 x7 x8 _ x10 _ => FqField x8 x10 x5 x6 x7) (fun x5 x6 x7 x8 _ x10 _ => FqIndexAddr x8 x10 x5 x6 x7) (fun x5 x6 x7 x8 _ x10 _ => FqIndex x8 x10 x5 x6 x7) (fun x5 x6 x7 x8 x9 x10 x11 x12 => FqLookup x9 x10 x11 x12 x5 x6 x7 x8) (fun _ _ _ _ _ _ _ _ => @Option.none _) (fun _ _ _ _ _ _ _ => @Option.none _) (fun _ _ _ _ _ _ _ _ => @Option.none _) (fun _ _ _ _ _ _ => @Option.none _) (fun _ _ _ _ _ _ => @Option.none _) (fun x5 _ x7 x8 x9 => FqEntry x7 x8 x9 x5) (fun x5 _ x7 x8 x9 _ x11 _ => FqAssert x9 x11 x5 x7 x8) (fun x5 x6 _ _ x9 _ => FqExtract x9 x5 x6) (fun x5 x6 x7 x8 x9 => FqCall x6 x7 x8 x9 x5) (fun _ _ _ _ _ => @Option.none _) (fun _ _ _ _ _ => @Option.none _) (fun _ _ _ _ _ => @Option.none _) (fun _ _ _ _ _ _ => @Option.none _) (fun _ _ _ _ _ _ _ => @Option.none _) (fun _ _ _ _ _ _ => @Option.none _) x4 x0 x1 x2 x3)
theorem Fquiet_eq : @Fquiet = @Go.Abs.quiet := by
  delta Fquiet
  rw [Faeval_eq, FqPick_eq, FqBuild_eq, FqLoad_eq, FqNilCheck_eq, FqBin_eq, FqUn_eq, FqConv_eq, FqIface_eq, FqFunc_eq, FqSlice_eq, FqFieldAddr_eq, FqField_eq, FqIndexAddr_eq, FqIndex_eq, FqLookup_eq, FqEntry_eq, FqAssert_eq, FqExtract_eq, FqCall_eq]; funext p0 p1 p2 p3 p4; cases p4 <;> kernel_rfl
noncomputable def FfAlloc : (AProg → (Go.TypeId → (Option (Prod AObj Mk)))) :=
  (fun x0 x1 => @Option.rec.{1, 0} _ (fun _ => Option (Prod AObj Mk)) (@Option.none _) (fun x2 => @Option.some _ (@Prod.mk _ _ (AObj.cells (FAVal_cells x2) (nat_lit 0) Bool.false Bool.false) Mk.ptr)) (FzeroA x0 x1))
theorem FfAlloc_eq : @FfAlloc = @Go.Abs.fAlloc := by
  delta FfAlloc
  rw [FAVal_cells_eq, FzeroA_eq]; kernel_rfl
noncomputable def FfBox : (Env → (Go.Operand → (Option (Prod AObj Mk)))) :=
  (fun x0 x1 => @Option.rec.{1, 0} _ (fun _ => Option (Prod AObj Mk)) (@Option.none _) (fun x2 => @Option.some _ (@Prod.mk _ _ (AObj.cells (FAVal_cells x2) (nat_lit 0) Bool.false Bool.false) Mk.ptr)) (Faeval x0 x1))
theorem FfBox_eq : @FfBox = @Go.Abs.fBox := by
  delta FfBox
  rw [FAVal_cells_eq, Faeval_eq]; kernel_rfl
noncomputable def Frepl : ((x0 : Type) → (Nat → ((List x0) → (List x0)))) :=
  (fun x0 x1 => @Nat.rec.{1} (fun _ => ((List x0) → (List x0))) (fun _ => @List.nil x0) (fun _ x3 x4 => FList_append x0 x4 (x3 x4)) x1)
theorem Frepl_eq : @Frepl = @Go.Abs.repl := by
  funext p0 p1
  refine @Nat.rec  (fun x => @Frepl p0 x = @Go.Abs.repl p0 x) ?_ ?_ p1
  · skip
    refine Eq.trans (show (@Frepl p0 (@Nat.zero )) = (fun _ => @List.nil p0) by kernel_rfl) ?_
    kernel_rfl
  · intro f0 h0
    refine Eq.trans (show (@Frepl p0 (@Nat.succ f0)) = (fun x0 => FList_append p0 x0 ((@Frepl p0 f0) x0)) by kernel_rfl) ?_
    generalize (@Frepl p0 f0) = r0 at h0 ⊢
    subst h0
    rw [FList_append_eq]
    kernel_rfl
noncomputable def FfBuildSlice_0 : (Nat → ((List (Prod Nat AVal)) → (Nat → (AVal → (Option (Prod AObj Mk)))))) :=
  (fun x0 x1 x2 x3 => @Option.rec.{1, 0} _ (fun _ => Option (Prod AObj Mk)) (@Option.none _) (fun x4 => @Option.some _ (@Prod.mk _ _ (AObj.cells x4 (nat_lit 0) Bool.false Bool.false) (Mk.slice x0 x0))) (FfillA (fun x4 => @Option.some _ (@Prod.mk _ _ (Nat.mul x4 x2) x2)) (Frepl AVal x0 (FAVal_cells x3)) x1))
noncomputable def FfBuildSlice_1 : (Nat → ((List (Prod Nat AVal)) → (Nat → (AVal → (Option (Prod AObj Mk)))))) :=
  (fun x0 x1 x2 x3 => @Bool.rec.{1} (fun _ => Option (Prod AObj Mk)) (@Option.none _) (FfBuildSlice_0 x0 x1 x2 x3) (Bool.and (Nat.ble (Nat.mul x0 x2) (nat_lit 16777216)) (Nat.beq (FList_length AVal (FAVal_cells x3)) x2)))
noncomputable def FfBuildSlice_2 : (AProg → (Nat → ((List (Prod Nat AVal)) → (Go.TypeId → (Nat → (Option (Prod AObj Mk))))))) :=
  (fun x0 x1 x2 x3 x4 => @Option.rec.{1, 0} _ (fun x5 => (((Nat.hasNotBit (nat_lit 2) (@Option.ctorIdx AVal x5)) → (Option (Prod AObj Mk))) → (Option (Prod AObj Mk)))) (fun x5 => x5 (nbq (nat_lit 2) (nat_lit 0) rfl)) (fun x5 _ => FfBuildSlice_1 x1 x2 x4 x5) (FzeroA x0 x3) (fun _ => @Option.none _))
noncomputable def FfBuildSlice_3 : (AProg → (Nat → ((List (Prod Nat AVal)) → (Go.TypeId → (Option (Prod AObj Mk)))))) :=
  (fun x0 x1 x2 x3 => @Option.rec.{1, 0} _ (fun x4 => (((Nat.hasNotBit (nat_lit 2) (@Option.ctorIdx Nat x4)) → (Option (Prod AObj Mk))) → (Option (Prod AObj Mk)))) (fun x4 => x4 (nbq (nat_lit 2) (nat_lit 0) rfl)) (fun x4 _ => FfBuildSlice_2 x0 x1 x2 x3 x4) (FsizeA x0 x3) (fun _ => @Option.none _))
noncomputable def FfBuildSlice_4 : (AProg → (Nat → ((List (Prod Nat AVal)) → (Go.TypeDesc → (Option (Prod AObj Mk)))))) :=
  (fun x0 x1 x2 x3 => @Go.TypeDesc.rec.{1} (fun x4 => (((Nat.hasNotBit (nat_lit 256) (Go.TypeDesc.ctorIdx x4)) → (Option (Prod AObj Mk))) → (Option (Prod AObj Mk)))) (fun x4 => x4 (nbq (nat_lit 256) (nat_lit 0) rfl)) (fun x4 => x4 (nbq (nat_lit 256) (nat_lit 1) rfl)) (fun x4 x5 => x5 (nbq (nat_lit 256) (nat_lit 2) rfl)) (fun x4 x5 => x5 (nbq (nat_lit 256) (nat_lit 3) rfl)) (fun x4 x5 => x5 (nbq (nat_lit 256) (nat_lit 4) rfl)) (fun x4 => x4 (nbq (nat_lit 256) (nat_lit 5) rfl)) (fun x4 => x4 (nbq (nat_lit 256) (nat_lit 6) rfl)) (fun x4 x5 => x5 (nbq (nat_lit 256) (nat_lit 7) rfl)) (fun x4 _ => FfBuildSlice_3 x0 x1 x2 x4) (fun x4 x5 x6 => x6 (nbq (nat_lit 256) (nat_lit 9) rfl)) (fun x4 x5 x6 => x6 (nbq (nat_lit 256) (nat_lit 10) rfl)) (fun x4 x5 x6 => x6 (nbq (nat_lit 256) (nat_lit 11) rfl)) (fun x4 x5 => x5 (nbq (nat_lit 256) (nat_lit 12) rfl)) (fun x4 x5 x6 x7 => x7 (nbq (nat_lit 256) (nat_lit 13) rfl)) (fun x4 x5 => x5 (nbq (nat_lit 256) (nat_lit 14) rfl)) (fun x4 x5 => x5 (nbq (nat_lit 256) (nat_lit 15) rfl)) (fun x4 x5 x6 => x6 (nbq (nat_lit 256) (nat_lit 16) rfl)) x3 (fun _ => @Option.none _))
noncomputable def FfBuildSlice_5 : (AProg → (Go.TypeId → (Nat → ((List (Prod Nat AVal)) → (Option (Prod AObj Mk)))))) :=
  (fun x0 x1 x2 x3 => @Option.rec.{1, 0} _ (fun x4 => (((Nat.hasNotBit (nat_lit 2) (@Option.ctorIdx Go.TypeDesc x4)) → (Option (Prod AObj Mk))) → (Option (Prod AObj Mk)))) (fun x4 => x4 (nbq (nat_lit 2) (nat_lit 0) rfl)) (fun x4 _ => FfBuildSlice_4 x0 x2 x3 x4) (Fund x0 x1) (fun _ => @Option.none _))
noncomputable def FfBuildSlice : (AProg → (Env → (Go.TypeId → (Nat → ((Array (Prod Nat Go.Operand)) → (Option (Prod AObj Mk))))))) :=
  (fun x0 x1 x2 x3 x4 => @Option.rec.{1, 0} _ (fun x5 => (((Nat.hasNotBit (nat_lit 2) (@Option.ctorIdx (List (Prod Nat AVal)) x5)) → (Option (Prod AObj Mk))) → (Option (Prod AObj Mk)))) (fun x5 => x5 (nbq (nat_lit 2) (nat_lit 0) rfl)) (fun x5 _ => FfBuildSlice_5 x0 x2 x3 x5) (FevalParts x1 (@Array.toList (Prod Nat Go.Operand) x4)) (fun _ => @Option.none _))
theorem FfBuildSlice_eq : @FfBuildSlice = @Go.Abs.fBuildSlice := by
  delta FfBuildSlice
  delta FfBuildSlice_5
  delta FfBuildSlice_4
  delta FfBuildSlice_3
  delta FfBuildSlice_2
  delta FfBuildSlice_1
  delta FfBuildSlice_0
  rw [FfillA_eq, Frepl_eq, FAVal_cells_eq, FList_length_eq, FzeroA_eq, FsizeA_eq, Fund_eq, FevalParts_eq]; kernel_rfl
noncomputable def FbytesA : (AProg → (Go.TypeId → (Option Nat))) :=
  (fun x0 x1 => @Option.rec.{1, 0} _ (fun _ => Option Nat) (@Option.none _) (fun x2 => @Option.some _ (Go.TypeInfo.bytes x2)) (FPTree_get Go.TypeInfo (FposOf x1) (AProg.types x0)))
theorem FbytesA_eq : @FbytesA = @Go.Abs.bytesA := by
  delta FbytesA
  rw [FPTree_get_eq, FposOf_eq]; kernel_rfl
noncomputable def FfMakeSlice_0 : (Nat → (Nat → (Nat → (Nat → (AVal → (Option (Prod AObj Mk))))))) :=
  (fun x0 x1 x2 x3 x4 => @Bool.rec.{1} (fun _ => Option (Prod AObj Mk)) (@Option.none _) (@Option.some _ (@Prod.mk _ _ (AObj.cells (Frepl AVal x1 (FAVal_cells x4)) (nat_lit 0) Bool.false Bool.false) (Mk.slice x0 x1))) (Bool.and (Bool.and (Bool.and (Nat.ble x0 x1) (Nat.ble x1 (nat_lit 1048576))) (Nat.ble x3 (nat_lit 1048576))) (Nat.beq (FList_length AVal (FAVal_cells x4)) x2)))
noncomputable def FfMakeSlice_1 : (AProg → (Go.TypeId → (Nat → (Nat → (Nat → (Nat → (Option (Prod AObj Mk)))))))) :=
  (fun x0 x1 x2 x3 x4 x5 => @Option.rec.{1, 0} _ (fun x6 => (((Nat.hasNotBit (nat_lit 2) (@Option.ctorIdx AVal x6)) → (Option (Prod AObj Mk))) → (Option (Prod AObj Mk)))) (fun x6 => x6 (nbq (nat_lit 2) (nat_lit 0) rfl)) (fun x6 _ => FfMakeSlice_0 x2 x3 x4 x5 x6) (FzeroA x0 x1) (fun _ => @Option.none _))
noncomputable def FfMakeSlice_2 : (AProg → (Go.TypeId → (Nat → (Nat → (Nat → (Option (Prod AObj Mk))))))) :=
  (fun x0 x1 x2 x3 x4 => @Option.rec.{1, 0} _ (fun x5 => (((Nat.hasNotBit (nat_lit 2) (@Option.ctorIdx Nat x5)) → (Option (Prod AObj Mk))) → (Option (Prod AObj Mk)))) (fun x5 => x5 (nbq (nat_lit 2) (nat_lit 0) rfl)) (fun x5 _ => FfMakeSlice_1 x0 x1 x2 x3 x4 x5) (FbytesA x0 x1) (fun _ => @Option.none _))
noncomputable def FfMakeSlice_3 : (AProg → (Go.TypeId → (Nat → (Nat → (Option (Prod AObj Mk)))))) :=
  (fun x0 x1 x2 x3 => @Option.rec.{1, 0} _ (fun x4 => (((Nat.hasNotBit (nat_lit 2) (@Option.ctorIdx Nat x4)) → (Option (Prod AObj Mk))) → (Option (Prod AObj Mk)))) (fun x4 => x4 (nbq (nat_lit 2) (nat_lit 0) rfl)) (fun x4 _ => FfMakeSlice_2 x0 x1 x2 x3 x4) (FsizeA x0 x1) (fun _ => @Option.none _))
noncomputable def FfMakeSlice_4 : (AProg → (AVal → (Go.TypeId → (Nat → (Option (Prod AObj Mk)))))) :=
  (fun x0 x1 x2 x3 => @Option.rec.{1, 0} _ (fun x4 => (((Nat.hasNotBit (nat_lit 2) (@Option.ctorIdx Nat x4)) → (Option (Prod AObj Mk))) → (Option (Prod AObj Mk)))) (fun x4 => x4 (nbq (nat_lit 2) (nat_lit 0) rfl)) (fun x4 _ => FfMakeSlice_3 x0 x2 x3 x4) (FnatOf x1) (fun _ => @Option.none _))
noncomputable def FfMakeSlice_5 : (AProg → (AVal → (AVal → (Go.TypeId → (Option (Prod AObj Mk)))))) :=
  (fun x0 x1 x2 x3 => @Option.rec.{1, 0} _ (fun x4 => (((Nat.hasNotBit (nat_lit 2) (@Option.ctorIdx Nat x4)) → (Option (Prod AObj Mk))) → (Option (Prod AObj Mk)))) (fun x4 => x4 (nbq (nat_lit 2) (nat_lit 0) rfl)) (fun x4 _ => FfMakeSlice_4 x0 x2 x3 x4) (FnatOf x1) (fun _ => @Option.none _))
noncomputable def FfMakeSlice_6 : (AProg → (AVal → (AVal → (Go.TypeDesc → (Option (Prod AObj Mk)))))) :=
  (fun x0 x1 x2 x3 => @Go.TypeDesc.rec.{1} (fun x4 => (((Nat.hasNotBit (nat_lit 256) (Go.TypeDesc.ctorIdx x4)) → (Option (Prod AObj Mk))) → (Option (Prod AObj Mk)))) (fun x4 => x4 (nbq (nat_lit 256) (nat_lit 0) rfl)) (fun x4 => x4 (nbq (nat_lit 256) (nat_lit 1) rfl)) (fun x4 x5 => x5 (nbq (nat_lit 256) (nat_lit 2) rfl)) (fun x4 x5 => x5 (nbq (nat_lit 256) (nat_lit 3) rfl)) (fun x4 x5 => x5 (nbq (nat_lit 256) (nat_lit 4) rfl)) (fun x4 => x4 (nbq (nat_lit 256) (nat_lit 5) rfl)) (fun x4 => x4 (nbq (nat_lit 256) (nat_lit 6) rfl)) (fun x4 x5 => x5 (nbq (nat_lit 256) (nat_lit 7) rfl)) (fun x4 _ => FfMakeSlice_5 x0 x1 x2 x4) (fun x4 x5 x6 => x6 (nbq (nat_lit 256) (nat_lit 9) rfl)) (fun x4 x5 x6 => x6 (nbq (nat_lit 256) (nat_lit 10) rfl)) (fun x4 x5 x6 => x6 (nbq (nat_lit 256) (nat_lit 11) rfl)) (fun x4 x5 => x5 (nbq (nat_lit 256) (nat_lit 12) rfl)) (fun x4 x5 x6 x7 => x7 (nbq (nat_lit 256) (nat_lit 13) rfl)) (fun x4 x5 => x5 (nbq (nat_lit 256) (nat_lit 14) rfl)) (fun x4 x5 => x5 (nbq (nat_lit 256) (nat_lit 15) rfl)) (fun x4 x5 x6 => x6 (nbq (nat_lit 256) (nat_lit 16) rfl)) x3 (fun _ => @Option.none _))
noncomputable def FfMakeSlice_7 : (AProg → (Go.TypeId → (AVal → (AVal → (Option (Prod AObj Mk)))))) :=
  (fun x0 x1 x2 x3 => @Option.rec.{1, 0} _ (fun x4 => (((Nat.hasNotBit (nat_lit 2) (@Option.ctorIdx Go.TypeDesc x4)) → (Option (Prod AObj Mk))) → (Option (Prod AObj Mk)))) (fun x4 => x4 (nbq (nat_lit 2) (nat_lit 0) rfl)) (fun x4 _ => FfMakeSlice_6 x0 x2 x3 x4) (Fund x0 x1) (fun _ => @Option.none _))
noncomputable def FfMakeSlice_8 : (AProg → (Env → (Go.TypeId → (Go.Operand → (AVal → (Option (Prod AObj Mk))))))) :=
  (fun x0 x1 x2 x3 x4 => @Option.rec.{1, 0} _ (fun x5 => (((Nat.hasNotBit (nat_lit 2) (@Option.ctorIdx AVal x5)) → (Option (Prod AObj Mk))) → (Option (Prod AObj Mk)))) (fun x5 => x5 (nbq (nat_lit 2) (nat_lit 0) rfl)) (fun x5 _ => FfMakeSlice_7 x0 x2 x4 x5) (Faeval x1 x3) (fun _ => @Option.none _))
noncomputable def FfMakeSlice : (AProg → (Env → (Go.TypeId → (Go.Operand → (Go.Operand → (Option (Prod AObj Mk))))))) :=
  (fun x0 x1 x2 x3 x4 => @Option.rec.{1, 0} _ (fun x5 => (((Nat.hasNotBit (nat_lit 2) (@Option.ctorIdx AVal x5)) → (Option (Prod AObj Mk))) → (Option (Prod AObj Mk)))) (fun x5 => x5 (nbq (nat_lit 2) (nat_lit 0) rfl)) (fun x5 _ => FfMakeSlice_8 x0 x1 x2 x4 x5) (Faeval x1 x3) (fun _ => @Option.none _))
theorem FfMakeSlice_eq : @FfMakeSlice = @Go.Abs.fMakeSlice := by
  delta FfMakeSlice
  delta FfMakeSlice_8
  delta FfMakeSlice_7
  delta FfMakeSlice_6
  delta FfMakeSlice_5
  delta FfMakeSlice_4
  delta FfMakeSlice_3
  delta FfMakeSlice_2
  delta FfMakeSlice_1
  delta FfMakeSlice_0
  rw [Frepl_eq, FAVal_cells_eq, FList_length_eq, FzeroA_eq, FbytesA_eq, FsizeA_eq, FnatOf_eq, Fund_eq, Faeval_eq]; kernel_rfl
noncomputable def FfMakeMap_0 : (Go.TypeDesc → (Option (Prod AObj Mk))) :=
  (fun x0 => @Go.TypeDesc.rec.{1} (fun x1 => (((Nat.hasNotBit (nat_lit 1024) (Go.TypeDesc.ctorIdx x1)) → (Option (Prod AObj Mk))) → (Option (Prod AObj Mk)))) (fun x1 => x1 (nbq (nat_lit 1024) (nat_lit 0) rfl)) (fun x1 => x1 (nbq (nat_lit 1024) (nat_lit 1) rfl)) (fun x1 x2 => x2 (nbq (nat_lit 1024) (nat_lit 2) rfl)) (fun x1 x2 => x2 (nbq (nat_lit 1024) (nat_lit 3) rfl)) (fun x1 x2 => x2 (nbq (nat_lit 1024) (nat_lit 4) rfl)) (fun x1 => x1 (nbq (nat_lit 1024) (nat_lit 5) rfl)) (fun x1 => x1 (nbq (nat_lit 1024) (nat_lit 6) rfl)) (fun x1 x2 => x2 (nbq (nat_lit 1024) (nat_lit 7) rfl)) (fun x1 x2 => x2 (nbq (nat_lit 1024) (nat_lit 8) rfl)) (fun x1 x2 x3 => x3 (nbq (nat_lit 1024) (nat_lit 9) rfl)) (fun x1 x2 _ => @Option.some _ (@Prod.mk _ _ (AObj.map (@List.nil _) (nat_lit 0)) Mk.map)) (fun x1 x2 x3 => x3 (nbq (nat_lit 1024) (nat_lit 11) rfl)) (fun x1 x2 => x2 (nbq (nat_lit 1024) (nat_lit 12) rfl)) (fun x1 x2 x3 x4 => x4 (nbq (nat_lit 1024) (nat_lit 13) rfl)) (fun x1 x2 => x2 (nbq (nat_lit 1024) (nat_lit 14) rfl)) (fun x1 x2 => x2 (nbq (nat_lit 1024) (nat_lit 15) rfl)) (fun x1 x2 x3 => x3 (nbq (nat_lit 1024) (nat_lit 16) rfl)) x0 (fun _ => @Option.none _))
noncomputable def FfMakeMap_1 : (AProg → (Go.TypeId → (AVal → (Option (Prod AObj Mk))))) :=
  (fun x0 x1 x2 => @AVal.rec.{1} (fun x3 => (((Nat.hasNotBit (nat_lit 2) (AVal.ctorIdx x3)) → (Option (Prod AObj Mk))) → (Option (Prod AObj Mk)))) (fun _ => PUnit) (fun x3 x4 => x4 (nbq (nat_lit 2) (nat_lit 0) rfl)) (fun x3 x4 _ => @Option.rec.{1, 0} _ (fun x6 => (((Nat.hasNotBit (nat_lit 2) (@Option.ctorIdx Go.TypeDesc x6)) → (Option (Prod AObj Mk))) → (Option (Prod AObj Mk)))) (fun x6 => x6 (nbq (nat_lit 2) (nat_lit 0) rfl)) (fun x6 _ => FfMakeMap_0 x6) (Fund x0 x1) (fun _ => @Option.none _)) (fun x3 x4 => x4 (nbq (nat_lit 2) (nat_lit 2) rfl)) (fun x3 x4 x5 => x5 (nbq (nat_lit 2) (nat_lit 3) rfl)) (fun x3 => x3 (nbq (nat_lit 2) (nat_lit 4) rfl)) (fun x3 x4 x5 x6 x7 => x7 (nbq (nat_lit 2) (nat_lit 5) rfl)) (fun x3 x4 x5 x6 x7 => x7 (nbq (nat_lit 2) (nat_lit 6) rfl)) (fun x3 => x3 (nbq (nat_lit 2) (nat_lit 7) rfl)) (fun x3 x4 => x4 (nbq (nat_lit 2) (nat_lit 8) rfl)) (fun x3 => x3 (nbq (nat_lit 2) (nat_lit 9) rfl)) (fun x3 x4 x5 _ _ x8 => x8 (nbq (nat_lit 2) (nat_lit 10) rfl)) (fun x3 x4 => x4 (nbq (nat_lit 2) (nat_lit 11) rfl)) (fun x3 => x3 (nbq (nat_lit 2) (nat_lit 12) rfl)) (fun x3 x4 _ x6 => x6 (nbq (nat_lit 2) (nat_lit 13) rfl)) (fun x3 => x3 (nbq (nat_lit 2) (nat_lit 14) rfl)) (fun x3 _ x5 => x5 (nbq (nat_lit 2) (nat_lit 15) rfl)) (fun x3 _ x5 => x5 (nbq (nat_lit 2) (nat_lit 16) rfl)) PUnit.unit (fun x3 _ _ _ => PUnit.unit) x2 (fun _ => @Option.none _))
noncomputable def FfMakeMap_2 : (AProg → (Env → (Go.TypeId → (Go.Operand → (Option (Prod AObj Mk)))))) :=
  (fun x0 x1 x2 x3 => @Option.rec.{1, 0} _ (fun x4 => (((Nat.hasNotBit (nat_lit 2) (@Option.ctorIdx AVal x4)) → (Option (Prod AObj Mk))) → (Option (Prod AObj Mk)))) (fun x4 => x4 (nbq (nat_lit 2) (nat_lit 0) rfl)) (fun x4 _ => FfMakeMap_1 x0 x2 x4) (Faeval x1 x3) (fun _ => @Option.none _))
noncomputable def FfMakeMap : (AProg → (Env → (Go.TypeId → ((Option Go.Operand) → (Option (Prod AObj Mk)))))) :=
  (fun x0 x1 x2 x3 => @Option.rec.{1, 0} _ (fun _ => Option (Prod AObj Mk)) (@Option.some _ (@Prod.mk _ _ (AObj.map (@List.nil _) (nat_lit 0)) Mk.map)) (fun x4 => FfMakeMap_2 x0 x1 x2 x4) x3)
theorem FfMakeMap_eq : @FfMakeMap = @Go.Abs.fMakeMap := by
  delta FfMakeMap
  delta FfMakeMap_2
  delta FfMakeMap_1
  delta FfMakeMap_0
  rw [Fund_eq, Faeval_eq]; kernel_rfl
noncomputable def FbytesVals : ((List Nat) → (List AVal)) :=
  (fun x0 => @List.rec.{1, 0} _ (fun _ => List AVal) (@List.nil _) (fun x1 _ x3 => @List.cons _ (AVal.int Go.IntKind.u8 (Int.ofNat x1)) x3) x0)
theorem FbytesVals_eq : @FbytesVals = @Go.Abs.bytesVals := by
  funext p0
  refine @List.rec _ (fun x => @FbytesVals x = @Go.Abs.bytesVals x) ?_ ?_ p0
  · skip
    refine Eq.trans (show (@FbytesVals (@List.nil _)) = (@List.nil _) by kernel_rfl) ?_
    kernel_rfl
  · intro f0 f1 h0
    refine Eq.trans (show (@FbytesVals (@List.cons _ f0 f1)) = (@List.cons _ (AVal.int Go.IntKind.u8 (Int.ofNat f0)) (@FbytesVals f1)) by kernel_rfl) ?_
    generalize (@FbytesVals f1) = r0 at h0 ⊢
    subst h0
    kernel_rfl
noncomputable def FfConv_0 : ((List Nat) → (Go.IntKind → (Option (Prod AObj Mk)))) :=
  (fun x0 x1 => @Go.IntKind.rec.{1} (fun x2 => (((Nat.hasNotBit (nat_lit 16) (Go.IntKind.ctorIdx x2)) → (Option (Prod AObj Mk))) → (Option (Prod AObj Mk)))) (fun x2 => x2 (nbq (nat_lit 16) (nat_lit 0) rfl)) (fun x2 => x2 (nbq (nat_lit 16) (nat_lit 1) rfl)) (fun x2 => x2 (nbq (nat_lit 16) (nat_lit 2) rfl)) (fun x2 => x2 (nbq (nat_lit 16) (nat_lit 3) rfl)) (fun _ => @Option.some _ (@Prod.mk _ _ (AObj.cells (FbytesVals x0) (nat_lit 1) Bool.true Bool.false) (Mk.sliceO (FList_length Nat x0) (nat_lit 1)))) (fun x2 => x2 (nbq (nat_lit 16) (nat_lit 5) rfl)) (fun x2 => x2 (nbq (nat_lit 16) (nat_lit 6) rfl)) (fun x2 => x2 (nbq (nat_lit 16) (nat_lit 7) rfl)) x1 (fun _ => @Option.none _))
noncomputable def FfConv_1 : ((List Nat) → (Go.TypeDesc → (Option (Prod AObj Mk)))) :=
  (fun x0 x1 => @Go.TypeDesc.rec.{1} (fun x2 => (((Nat.hasNotBit (nat_lit 4) (Go.TypeDesc.ctorIdx x2)) → (Option (Prod AObj Mk))) → (Option (Prod AObj Mk)))) (fun x2 => x2 (nbq (nat_lit 4) (nat_lit 0) rfl)) (fun x2 => x2 (nbq (nat_lit 4) (nat_lit 1) rfl)) (fun x2 _ => FfConv_0 x0 x2) (fun x2 x3 => x3 (nbq (nat_lit 4) (nat_lit 3) rfl)) (fun x2 x3 => x3 (nbq (nat_lit 4) (nat_lit 4) rfl)) (fun x2 => x2 (nbq (nat_lit 4) (nat_lit 5) rfl)) (fun x2 => x2 (nbq (nat_lit 4) (nat_lit 6) rfl)) (fun x2 x3 => x3 (nbq (nat_lit 4) (nat_lit 7) rfl)) (fun x2 x3 => x3 (nbq (nat_lit 4) (nat_lit 8) rfl)) (fun x2 x3 x4 => x4 (nbq (nat_lit 4) (nat_lit 9) rfl)) (fun x2 x3 x4 => x4 (nbq (nat_lit 4) (nat_lit 10) rfl)) (fun x2 x3 x4 => x4 (nbq (nat_lit 4) (nat_lit 11) rfl)) (fun x2 x3 => x3 (nbq (nat_lit 4) (nat_lit 12) rfl)) (fun x2 x3 x4 x5 => x5 (nbq (nat_lit 4) (nat_lit 13) rfl)) (fun x2 x3 => x3 (nbq (nat_lit 4) (nat_lit 14) rfl)) (fun x2 x3 => x3 (nbq (nat_lit 4) (nat_lit 15) rfl)) (fun x2 x3 x4 => x4 (nbq (nat_lit 4) (nat_lit 16) rfl)) x1 (fun _ => @Option.none _))
noncomputable def FfConv_2 : (AProg → ((List Nat) → (Go.TypeId → (Option (Prod AObj Mk))))) :=
  (fun x0 x1 x2 => @Option.rec.{1, 0} _ (fun x3 => (((Nat.hasNotBit (nat_lit 2) (@Option.ctorIdx Go.TypeDesc x3)) → (Option (Prod AObj Mk))) → (Option (Prod AObj Mk)))) (fun x3 => x3 (nbq (nat_lit 2) (nat_lit 0) rfl)) (fun x3 _ => FfConv_1 x1 x3) (Fund x0 x2) (fun _ => @Option.none _))
noncomputable def FfConv_3 : (AProg → ((List Nat) → (Go.TypeDesc → (Option (Prod AObj Mk))))) :=
  (fun x0 x1 x2 => @Go.TypeDesc.rec.{1} (fun x3 => (((Nat.hasNotBit (nat_lit 256) (Go.TypeDesc.ctorIdx x3)) → (Option (Prod AObj Mk))) → (Option (Prod AObj Mk)))) (fun x3 => x3 (nbq (nat_lit 256) (nat_lit 0) rfl)) (fun x3 => x3 (nbq (nat_lit 256) (nat_lit 1) rfl)) (fun x3 x4 => x4 (nbq (nat_lit 256) (nat_lit 2) rfl)) (fun x3 x4 => x4 (nbq (nat_lit 256) (nat_lit 3) rfl)) (fun x3 x4 => x4 (nbq (nat_lit 256) (nat_lit 4) rfl)) (fun x3 => x3 (nbq (nat_lit 256) (nat_lit 5) rfl)) (fun x3 => x3 (nbq (nat_lit 256) (nat_lit 6) rfl)) (fun x3 x4 => x4 (nbq (nat_lit 256) (nat_lit 7) rfl)) (fun x3 _ => FfConv_2 x0 x1 x3) (fun x3 x4 x5 => x5 (nbq (nat_lit 256) (nat_lit 9) rfl)) (fun x3 x4 x5 => x5 (nbq (nat_lit 256) (nat_lit 10) rfl)) (fun x3 x4 x5 => x5 (nbq (nat_lit 256) (nat_lit 11) rfl)) (fun x3 x4 => x4 (nbq (nat_lit 256) (nat_lit 12) rfl)) (fun x3 x4 x5 x6 => x6 (nbq (nat_lit 256) (nat_lit 13) rfl)) (fun x3 x4 => x4 (nbq (nat_lit 256) (nat_lit 14) rfl)) (fun x3 x4 => x4 (nbq (nat_lit 256) (nat_lit 15) rfl)) (fun x3 x4 x5 => x5 (nbq (nat_lit 256) (nat_lit 16) rfl)) x2 (fun _ => @Option.none _))
noncomputable def FfConv_4 : (AProg → (Go.TypeId → ((List Nat) → (Option (Prod AObj Mk))))) :=
  (fun x0 x1 x2 => @Option.rec.{1, 0} _ (fun x3 => (((Nat.hasNotBit (nat_lit 2) (@Option.ctorIdx Go.TypeDesc x3)) → (Option (Prod AObj Mk))) → (Option (Prod AObj Mk)))) (fun x3 => x3 (nbq (nat_lit 2) (nat_lit 0) rfl)) (fun x3 _ => FfConv_3 x0 x2 x3) (Fund x0 x1) (fun _ => @Option.none _))
noncomputable def FfConv_5 : (AProg → (Go.TypeId → ((List Nat) → (Go.TypeDesc → (Option (Prod AObj Mk)))))) :=
  (fun x0 x1 x2 x3 => @Go.TypeDesc.rec.{1} (fun x4 => (((Nat.hasNotBit (nat_lit 32) (Go.TypeDesc.ctorIdx x4)) → (Option (Prod AObj Mk))) → (Option (Prod AObj Mk)))) (fun x4 => x4 (nbq (nat_lit 32) (nat_lit 0) rfl)) (fun x4 => x4 (nbq (nat_lit 32) (nat_lit 1) rfl)) (fun x4 x5 => x5 (nbq (nat_lit 32) (nat_lit 2) rfl)) (fun x4 x5 => x5 (nbq (nat_lit 32) (nat_lit 3) rfl)) (fun x4 x5 => x5 (nbq (nat_lit 32) (nat_lit 4) rfl)) (fun _ => FfConv_4 x0 x1 x2) (fun x4 => x4 (nbq (nat_lit 32) (nat_lit 6) rfl)) (fun x4 x5 => x5 (nbq (nat_lit 32) (nat_lit 7) rfl)) (fun x4 x5 => x5 (nbq (nat_lit 32) (nat_lit 8) rfl)) (fun x4 x5 x6 => x6 (nbq (nat_lit 32) (nat_lit 9) rfl)) (fun x4 x5 x6 => x6 (nbq (nat_lit 32) (nat_lit 10) rfl)) (fun x4 x5 x6 => x6 (nbq (nat_lit 32) (nat_lit 11) rfl)) (fun x4 x5 => x5 (nbq (nat_lit 32) (nat_lit 12) rfl)) (fun x4 x5 x6 x7 => x7 (nbq (nat_lit 32) (nat_lit 13) rfl)) (fun x4 x5 => x5 (nbq (nat_lit 32) (nat_lit 14) rfl)) (fun x4 x5 => x5 (nbq (nat_lit 32) (nat_lit 15) rfl)) (fun x4 x5 x6 => x6 (nbq (nat_lit 32) (nat_lit 16) rfl)) x3 (fun _ => @Option.none _))
noncomputable def FfConv_6 : (AProg → (Go.TypeId → (Go.TypeId → ((List Nat) → (Option (Prod AObj Mk)))))) :=
  (fun x0 x1 x2 x3 => @Option.rec.{1, 0} _ (fun x4 => (((Nat.hasNotBit (nat_lit 2) (@Option.ctorIdx Go.TypeDesc x4)) → (Option (Prod AObj Mk))) → (Option (Prod AObj Mk)))) (fun x4 => x4 (nbq (nat_lit 2) (nat_lit 0) rfl)) (fun x4 _ => FfConv_5 x0 x2 x3 x4) (Fund x0 x1) (fun _ => @Option.none _))
noncomputable def FfConv_7 : (AProg → (Go.TypeId → (Go.TypeId → (AVal → (Option (Prod AObj Mk)))))) :=
  (fun x0 x1 x2 x3 => @AVal.rec.{1} (fun x4 => (((Nat.hasNotBit (nat_lit 4) (AVal.ctorIdx x4)) → (Option (Prod AObj Mk))) → (Option (Prod AObj Mk)))) (fun _ => PUnit) (fun x4 x5 => x5 (nbq (nat_lit 4) (nat_lit 0) rfl)) (fun x4 x5 x6 => x6 (nbq (nat_lit 4) (nat_lit 1) rfl)) (fun x4 _ => FfConv_6 x0 x1 x2 x4) (fun x4 x5 x6 => x6 (nbq (nat_lit 4) (nat_lit 3) rfl)) (fun x4 => x4 (nbq (nat_lit 4) (nat_lit 4) rfl)) (fun x4 x5 x6 x7 x8 => x8 (nbq (nat_lit 4) (nat_lit 5) rfl)) (fun x4 x5 x6 x7 x8 => x8 (nbq (nat_lit 4) (nat_lit 6) rfl)) (fun x4 => x4 (nbq (nat_lit 4) (nat_lit 7) rfl)) (fun x4 x5 => x5 (nbq (nat_lit 4) (nat_lit 8) rfl)) (fun x4 => x4 (nbq (nat_lit 4) (nat_lit 9) rfl)) (fun x4 x5 x6 _ _ x9 => x9 (nbq (nat_lit 4) (nat_lit 10) rfl)) (fun x4 x5 => x5 (nbq (nat_lit 4) (nat_lit 11) rfl)) (fun x4 => x4 (nbq (nat_lit 4) (nat_lit 12) rfl)) (fun x4 x5 _ x7 => x7 (nbq (nat_lit 4) (nat_lit 13) rfl)) (fun x4 => x4 (nbq (nat_lit 4) (nat_lit 14) rfl)) (fun x4 _ x6 => x6 (nbq (nat_lit 4) (nat_lit 15) rfl)) (fun x4 _ x6 => x6 (nbq (nat_lit 4) (nat_lit 16) rfl)) PUnit.unit (fun x4 _ _ _ => PUnit.unit) x3 (fun _ => @Option.none _))
noncomputable def FfConv : (AProg → (Env → (Go.TypeId → (Go.TypeId → (Go.Operand → (Option (Prod AObj Mk))))))) :=
  (fun x0 x1 x2 x3 x4 => @Option.rec.{1, 0} _ (fun x5 => (((Nat.hasNotBit (nat_lit 2) (@Option.ctorIdx AVal x5)) → (Option (Prod AObj Mk))) → (Option (Prod AObj Mk)))) (fun x5 => x5 (nbq (nat_lit 2) (nat_lit 0) rfl)) (fun x5 _ => FfConv_7 x0 x2 x3 x5) (Faeval x1 x4) (fun _ => @Option.none _))
theorem FfConv_eq : @FfConv = @Go.Abs.fConv := by
  delta FfConv
  delta FfConv_7
  delta FfConv_6
  delta FfConv_5
  delta FfConv_4
  delta FfConv_3
  delta FfConv_2
  delta FfConv_1
  delta FfConv_0
  rw [FbytesVals_eq, FList_length_eq, Fund_eq, Faeval_eq]; kernel_rfl
noncomputable def Ffresh : (AProg → (Env → (Go.Op → (Option (Prod AObj Mk))))) :=
  (fun x0 x1 x2 => @Go.Op.rec.{1} (fun _ => (AProg → (Env → (Option (Prod AObj Mk))))) (fun _ _ _ => @Option.none _) (fun _ _ _ => @Option.none _) (fun _ _ _ _ _ => @Option.none _) (fun x3 x4 _ => FfAlloc x4 x3) (fun _ x4 _ x6 => FfBox x6 x4) (fun _ _ _ _ => @Option.none _) (fun x3 x4 x5 x6 x7 => FfBuildSlice x6 x7 x3 x4 x5) (fun _ _ _ _ _ _ => @Option.none _) (fun _ _ _ _ => @Option.none _) (fun _ _ _ _ _ => @Option.none _) (fun _ _ _ => @Option.none _) (fun _ _ _ => @Option.none _) (fun _ _ _ => @Option.none _) (fun _ _ _ _ _ _ _ => @Option.none _) (fun _ _ _ _ _ => @Option.none _) (fun x3 x4 x5 x6 x7 => FfConv x6 x7 x3 x4 x5) (fun _ _ _ _ => @Option.none _) (fun _ _ _ _ => @Option.none _) (fun _ _ _ _ _ => @Option.none _) (fun x3 x4 x5 x6 => FfMakeMap x5 x6 x3 x4) (fun _ _ _ _ => @Option.none _) (fun x3 x4 x5 x6 x7 => FfMakeSlice x6 x7 x3 x4 x5) (fun _ _ _ _ _ _ _ => @Option.none _) (fun _ _ _ _ _ => @Option.none _) (fun _ _ _ _ _ => @Option.none _) (fun _ _ _ _ _ => @Option.none _) (fun _ _ _ _ _ => @Option.none _) (fun _ _ _ _ _ _ => @Option.none _) (fun _ _ _ _ _ _ => @Option.none _) (fun _ _ _ _ _ => @Option.none _) (fun _ _ _ _ _ _ => @Option.none _) (fun _ _ _ _ => @Option.none _) (fun _ _ _ _ => @Option.none _) (fun _ _ _ => @Option.none _) (fun _ _ _ _ _ _ => @Option.none _) (fun _ _ _ _ => @Option.none _) (fun _ _ _ => @Option.none _) (fun _ _ _ => @Option.none _) (fun _ _ _ => @Option.none _) (fun _ _ _ => @Option.none _) (fun _ _ _ _ => @Option.none _) (fun _ _ _ _ _ => @Option.none _) (fun _ _ _ _ => @Option.none _) x2 x0 x1)
theorem Ffresh_eq : @Ffresh = @Go.Abs.fresh := by
  delta Ffresh
  rw [FfAlloc_eq, FfBox_eq, FfBuildSlice_eq, FfConv_eq, FfMakeMap_eq, FfMakeSlice_eq]; funext p0 p1 p2; cases p2 <;> kernel_rfl
noncomputable def FMk_val : (Mk → (Pos → AVal)) :=
  (fun x0 x1 => @Mk.rec.{1} (fun _ => (Pos → AVal)) (fun x2 => AVal.ptr x2 (nat_lit 0)) (fun x2 => AVal.map x2) (fun x2 x3 x4 => AVal.slice x4 (nat_lit 0) x2 x3) (fun x2 x3 x4 => AVal.sliceO x4 (nat_lit 0) x2 x3) x0 x1)
theorem FMk_val_eq : @FMk_val = @Go.Abs.Mk.val := by
  delta FMk_val
  funext p0 p1; cases p0 <;> kernel_rfl
noncomputable def FPos_inc : (Pos → Pos) :=
  (fun x0 => @Pos.rec.{1} (fun _ => Pos) (Pos.O Pos.H) (fun x1 _ => Pos.I x1) (fun _ x2 => Pos.O x2) x0)
theorem FPos_inc_eq : @FPos_inc = @Go.Abs.Pos.inc := by
  funext p0
  refine @Go.Abs.Pos.rec  (fun x => @FPos_inc x = @Go.Abs.Pos.inc x) ?_ ?_ ?_ p0
  · skip
    refine Eq.trans (show (@FPos_inc (@Go.Abs.Pos.H )) = (Pos.O Pos.H) by kernel_rfl) ?_
    kernel_rfl
  · intro f0 h0
    refine Eq.trans (show (@FPos_inc (@Go.Abs.Pos.O f0)) = (Pos.I f0) by kernel_rfl) ?_
    generalize (@FPos_inc f0) = r0 at h0 ⊢
    subst h0
    kernel_rfl
  · intro f0 h0
    refine Eq.trans (show (@FPos_inc (@Go.Abs.Pos.I f0)) = (Pos.O (@FPos_inc f0)) by kernel_rfl) ?_
    generalize (@FPos_inc f0) = r0 at h0 ⊢
    subst h0
    kernel_rfl
noncomputable def FHeap_new : (Heap → (AObj → Heap)) :=
  (fun x0 x1 => @Heap.rec.{1} (fun _ => Heap) (fun x2 x3 => Heap.mk (FPTree_put AObj x3 x1 x2) (FPos_inc x3)) x0)
theorem FHeap_new_eq : @FHeap_new = @Go.Abs.Heap.new := by
  delta FHeap_new
  rw [FPTree_put_eq, FPos_inc_eq]; kernel_rfl
noncomputable def FAVal_one : (AVal → Bool) :=
  (fun x0 => @AVal.rec.{1} (fun _ => Bool) (fun _ => PUnit) (fun _ => Bool.true) (fun _ _ => Bool.true) (fun _ => Bool.true) (fun _ _ => Bool.true) Bool.true (fun _ _ _ _ => Bool.true) (fun _ _ _ _ => Bool.true) Bool.true (fun _ => Bool.true) Bool.true (fun _ _ _ _ _ => Bool.true) (fun _ => Bool.true) Bool.true (fun _ x2 _ => Bool.true) Bool.true (fun _ _ => Bool.false) (fun _ _ => Bool.false) PUnit.unit (fun x1 _ _ _ => PUnit.unit) x0)
theorem FAVal_one_eq : @FAVal_one = @Go.Abs.AVal.one := by
  delta FAVal_one
  funext p0; cases p0 <;> kernel_rfl
noncomputable def FallOne : ((List AVal) → Bool) :=
  (fun x0 => @List.rec.{1, 0} _ (fun _ => Bool) Bool.true (fun x1 _ x3 => @Bool.rec.{1} (fun _ => Bool) Bool.false x3 (FAVal_one x1)) x0)
theorem FallOne_eq : @FallOne = @Go.Abs.allOne := by
  funext p0
  refine @List.rec _ (fun x => @FallOne x = @Go.Abs.allOne x) ?_ ?_ p0
  · skip
    refine Eq.trans (show (@FallOne (@List.nil _)) = Bool.true by kernel_rfl) ?_
    kernel_rfl
  · intro f0 f1 h0
    refine Eq.trans (show (@FallOne (@List.cons _ f0 f1)) = (@Bool.rec.{1} (fun _ => Bool) Bool.false (@FallOne f1) (FAVal_one f0)) by kernel_rfl) ?_
    generalize (@FallOne f1) = r0 at h0 ⊢
    subst h0
    rw [FAVal_one_eq]
    kernel_rfl
noncomputable def FstoreA_0 : (Heap → (Pos → (Nat → ((List AVal) → ((List AVal) → (Nat → (Bool → (Bool → (Option Heap))))))))) :=
  (fun x0 x1 x2 x3 x4 x5 x6 x7 => @Bool.rec.{1} (fun x8 => (((Nat.hasNotBit (nat_lit 1) (Bool.ctorIdx x8)) → (Option Heap)) → (Option Heap))) (fun _ => @Option.rec.{1, 0} _ (fun _ => Option Heap) (@Option.none _) (fun x9 => @Option.some _ (FHeap_set x0 x1 (AObj.cells x9 x5 x6 Bool.false))) (Fsplice AVal x2 x3 x4)) (fun x8 => x8 (nbq (nat_lit 1) (nat_lit 1) rfl)) x7 (fun _ => @Option.none _))
noncomputable def FstoreA_1 : (Heap → (Pos → (Nat → ((List AVal) → (AObj → (Option Heap)))))) :=
  (fun x0 x1 x2 x3 x4 => @AObj.rec.{1} (fun x5 => (((Nat.hasNotBit (nat_lit 1) (AObj.ctorIdx x5)) → (Option Heap)) → (Option Heap))) (fun x5 x6 x7 x8 _ => FstoreA_0 x0 x1 x2 x3 x5 x6 x7 x8) (fun x5 x6 x7 => x7 (nbq (nat_lit 1) (nat_lit 1) rfl)) (fun x5 x6 x7 => x7 (nbq (nat_lit 1) (nat_lit 2) rfl)) (fun x5 x6 x7 x8 => x8 (nbq (nat_lit 1) (nat_lit 3) rfl)) (fun x5 x6 => x6 (nbq (nat_lit 1) (nat_lit 4) rfl)) (fun x5 x6 => x6 (nbq (nat_lit 1) (nat_lit 5) rfl)) (fun x5 => x5 (nbq (nat_lit 1) (nat_lit 6) rfl)) x4 (fun _ => @Option.none _))
noncomputable def FstoreA_2 : ((List (PTree AObj)) → (Heap → (Pos → (Nat → ((List AVal) → (Option Heap)))))) :=
  (fun x0 x1 x2 x3 x4 => @Option.rec.{1, 0} _ (fun x5 => (((Nat.hasNotBit (nat_lit 2) (@Option.ctorIdx AObj x5)) → (Option Heap)) → (Option Heap))) (fun x5 => x5 (nbq (nat_lit 2) (nat_lit 0) rfl)) (fun x5 _ => FstoreA_1 x1 x2 x3 x4 x5) (Fhget x0 x1 x2) (fun _ => @Option.none _))
noncomputable def FstoreA : ((List (PTree AObj)) → (Heap → (Pos → (Nat → ((List AVal) → (Option Heap)))))) :=
  (fun x0 x1 x2 x3 x4 => @Bool.rec.{1} (fun _ => Option Heap) (@Option.none _) (FstoreA_2 x0 x1 x2 x3 x4) (FallOne x4))
theorem FstoreA_eq : @FstoreA = @Go.Abs.storeA := by
  delta FstoreA
  delta FstoreA_2
  delta FstoreA_1
  delta FstoreA_0
  rw [FHeap_set_eq, Fsplice_eq, Fhget_eq, FallOne_eq]; kernel_rfl
noncomputable def FwStore_0 : (AProg → ((List (PTree AObj)) → (Heap → (Go.TypeId → (Pos → (Nat → (AVal → ARes))))))) :=
  (fun x0 x1 x2 x3 x4 x5 x6 => @Option.rec.{1, 0} _ (fun x7 => (((Nat.hasNotBit (nat_lit 2) (@Option.ctorIdx Nat x7)) → ARes) → ARes)) (fun x7 => x7 (nbq (nat_lit 2) (nat_lit 0) rfl)) (fun x7 _ => @Bool.rec.{1} (fun _ => ARes) ARes.fail (@Option.rec.{1, 0} _ (fun _ => ARes) ARes.fail (fun x9 => ARes.val FundefA x9) (FstoreA x1 x2 x4 x5 (FAVal_cells x6))) (Nat.beq (FList_length AVal (FAVal_cells x6)) x7)) (FsizeA x0 x3) (fun _ => ARes.fail))
noncomputable def FwStore_1 : (AProg → ((List (PTree AObj)) → (Env → (Heap → (Go.TypeId → (Go.Operand → (Pos → (Nat → ARes)))))))) :=
  (fun x0 x1 x2 x3 x4 x5 x6 x7 => @Option.rec.{1, 0} _ (fun x8 => (((Nat.hasNotBit (nat_lit 2) (@Option.ctorIdx AVal x8)) → ARes) → ARes)) (fun x8 => x8 (nbq (nat_lit 2) (nat_lit 0) rfl)) (fun x8 _ => FwStore_0 x0 x1 x3 x4 x6 x7 x8) (Faeval x2 x5) (fun _ => ARes.fail))
end Go.Abs
