/- Own work: an evaluator of closed runs over the model, and why it is right. Part of the proof; holds for any program. -/
import Derived.KernelRfl
import Derived.Test.YtjbcjoeedlabkaaGreatDoorAbs4
set_option linter.unusedVariables false
set_option linter.unusedSimpArgs false
set_option linter.unusedSectionVars false
namespace Go.Abs
set_option linter.unusedVariables false
noncomputable def FwStore_2 : (AProg → ((List (PTree AObj)) → (Env → (Heap → (Go.TypeId → (Go.Operand → (AVal → ARes))))))) :=
  (fun x0 x1 x2 x3 x4 x5 x6 => @AVal.rec.{1} (fun x7 => (((Nat.hasNotBit (nat_lit 8) (AVal.ctorIdx x7)) → ARes) → ARes)) (fun _ => PUnit) (fun x7 x8 => x8 (nbq (nat_lit 8) (nat_lit 0) rfl)) (fun x7 x8 x9 => x9 (nbq (nat_lit 8) (nat_lit 1) rfl)) (fun x7 x8 => x8 (nbq (nat_lit 8) (nat_lit 2) rfl)) (fun x7 x8 _ => FwStore_1 x0 x1 x2 x3 x4 x5 x7 x8) (fun x7 => x7 (nbq (nat_lit 8) (nat_lit 4) rfl)) (fun x7 x8 x9 x10 x11 => x11 (nbq (nat_lit 8) (nat_lit 5) rfl)) (fun x7 x8 x9 x10 x11 => x11 (nbq (nat_lit 8) (nat_lit 6) rfl)) (fun x7 => x7 (nbq (nat_lit 8) (nat_lit 7) rfl)) (fun x7 x8 => x8 (nbq (nat_lit 8) (nat_lit 8) rfl)) (fun x7 => x7 (nbq (nat_lit 8) (nat_lit 9) rfl)) (fun x7 x8 x9 _ _ x12 => x12 (nbq (nat_lit 8) (nat_lit 10) rfl)) (fun x7 x8 => x8 (nbq (nat_lit 8) (nat_lit 11) rfl)) (fun x7 => x7 (nbq (nat_lit 8) (nat_lit 12) rfl)) (fun x7 x8 _ x10 => x10 (nbq (nat_lit 8) (nat_lit 13) rfl)) (fun x7 => x7 (nbq (nat_lit 8) (nat_lit 14) rfl)) (fun x7 _ x9 => x9 (nbq (nat_lit 8) (nat_lit 15) rfl)) (fun x7 _ x9 => x9 (nbq (nat_lit 8) (nat_lit 16) rfl)) PUnit.unit (fun x7 _ _ _ => PUnit.unit) x6 (fun _ => ARes.fail))
noncomputable def FwStore : (AProg → ((List (PTree AObj)) → (Env → (Heap → (Go.TypeId → (Go.Operand → (Go.Operand → ARes))))))) :=
  (fun x0 x1 x2 x3 x4 x5 x6 => @Option.rec.{1, 0} _ (fun x7 => (((Nat.hasNotBit (nat_lit 2) (@Option.ctorIdx AVal x7)) → ARes) → ARes)) (fun x7 => x7 (nbq (nat_lit 2) (nat_lit 0) rfl)) (fun x7 _ => FwStore_2 x0 x1 x2 x3 x4 x6 x7) (Faeval x2 x5) (fun _ => ARes.fail))
theorem FwStore_eq : @FwStore = @Go.Abs.wStore := by
  delta FwStore
  delta FwStore_2
  delta FwStore_1
  delta FwStore_0
  rw [FundefA_eq, FstoreA_eq, FAVal_cells_eq, FList_length_eq, FsizeA_eq, Faeval_eq]; kernel_rfl
noncomputable def FkeyFlat : (AVal → Bool) :=
  (fun x0 => @AVal.rec.{1} (fun _ => Bool) (fun _ => PUnit) (fun _ => Bool.true) (fun _ _ => Bool.true) (fun _ => Bool.true) (fun _ _ => Bool.true) Bool.true (fun _ _ _ _ => Bool.true) (fun _ _ _ _ => Bool.true) Bool.true (fun _ => Bool.true) Bool.true (fun _ _ _ _ _ => Bool.true) (fun _ => Bool.true) Bool.true (fun _ x2 _ => Bool.true) Bool.true (fun x1 _ => FallOne x1) (fun _ _ => Bool.true) PUnit.unit (fun x1 _ _ _ => PUnit.unit) x0)
theorem FkeyFlat_eq : @FkeyFlat = @Go.Abs.keyFlat := by
  delta FkeyFlat
  rw [FallOne_eq]; funext p0; cases p0 <;> kernel_rfl
noncomputable def FsetNth : ((x0 : Type) → (Nat → (x0 → ((List x0) → (List x0))))) :=
  (fun x0 x1 => @Nat.rec.{1} (fun _ => (x0 → ((List x0) → (List x0)))) (fun x2 x3 => @List.rec.{1, 0} x0 (fun _ => List x0) (@List.nil x0) (fun _ x5 _ => @List.cons x0 x2 x5) x3) (fun _ x3 x4 x5 => @List.rec.{1, 0} x0 (fun _ => List x0) (@List.nil x0) (fun x6 x7 _ => @List.cons x0 x6 (x3 x4 x7)) x5) x1)
theorem FsetNth_eq : @FsetNth = @Go.Abs.setNth := by
  funext p0 p1
  refine @Nat.rec  (fun x => @FsetNth p0 x = @Go.Abs.setNth p0 x) ?_ ?_ p1
  · skip
    refine Eq.trans (show (@FsetNth p0 (@Nat.zero )) = (fun x0 x1 => @List.rec.{1, 0} p0 (fun _ => List p0) (@List.nil p0) (fun _ x3 _ => @List.cons p0 x0 x3) x1) by kernel_rfl) ?_
    kernel_rfl
  · intro f0 h0
    refine Eq.trans (show (@FsetNth p0 (@Nat.succ f0)) = (fun x0 x1 => @List.rec.{1, 0} p0 (fun _ => List p0) (@List.nil p0) (fun x2 x3 _ => @List.cons p0 x2 ((@FsetNth p0 f0) x0 x3)) x1) by kernel_rfl) ?_
    generalize (@FsetNth p0 f0) = r0 at h0 ⊢
    subst h0
    kernel_rfl
noncomputable def FupdateA_0 : (Heap → (AVal → (AVal → (Pos → ((List AEntry) → (Nat → ((Prod Nat AEntry) → (Option Heap)))))))) :=
  (fun x0 x1 x2 x3 x4 x5 x6 => @Prod.rec.{1, 0, 0} _ _ (fun _ => Option Heap) (fun x7 x8 => @Bool.rec.{1} (fun _ => Option Heap) (@Option.none _) (@Option.some _ (FHeap_set x0 x3 (AObj.map (FsetNth AEntry x7 (AEntry.mk x1 x2 (AEntry.born x8)) x4) x5))) (FkeyFlat (AEntry.k x8))) x6)
noncomputable def FupdateA_1 : (Heap → (AVal → (AVal → (Pos → ((List AEntry) → (Nat → ((Option (Prod Nat AEntry)) → (Option Heap)))))))) :=
  (fun x0 x1 x2 x3 x4 x5 x6 => @Option.rec.{1, 0} _ (fun _ => Option Heap) (@Option.some _ (FHeap_set x0 x3 (AObj.map (FList_append AEntry x4 (@List.cons _ (AEntry.mk x1 x2 x5) (@List.nil _))) (Nat.succ x5)))) (fun x7 => FupdateA_0 x0 x1 x2 x3 x4 x5 x7) x6)
noncomputable def FupdateA_2 : (AProg → ((List (PTree AObj)) → (Heap → (AVal → (AVal → (Go.TypeId → (Pos → ((List AEntry) → (Nat → (Option Heap)))))))))) :=
  (fun x0 x1 x2 x3 x4 x5 x6 x7 x8 => @Option.rec.{1, 0} _ (fun _ => Option Heap) (@Option.none _) (fun x9 => FupdateA_1 x2 x3 x4 x6 x7 x8 x9) (FfindA x0 x1 x2 x5 x3 x7 (nat_lit 0)))
noncomputable def FupdateA_3 : (AProg → ((List (PTree AObj)) → (Heap → (AVal → (AVal → (Go.TypeId → (Pos → (Option Heap)))))))) :=
  (fun x0 x1 x2 x3 x4 x5 x6 => @Option.rec.{1, 0} _ (fun _ => Option Heap) (@Option.none _) (fun x7 => @Prod.rec.{1, 0, 0} _ _ (fun _ => Option Heap) (fun x8 x9 => FupdateA_2 x0 x1 x2 x3 x4 x5 x6 x8 x9) x7) (FmapAt x1 x2 x6))
noncomputable def FupdateA_4 : (AProg → ((List (PTree AObj)) → (Heap → (AVal → (AVal → (AVal → (Go.TypeId → (Option Heap)))))))) :=
  (fun x0 x1 x2 x3 x4 x5 x6 => @AVal.rec.{1} (fun x7 => (((Nat.hasNotBit (nat_lit 256) (AVal.ctorIdx x7)) → (Option Heap)) → (Option Heap))) (fun _ => PUnit) (fun x7 x8 => x8 (nbq (nat_lit 256) (nat_lit 0) rfl)) (fun x7 x8 x9 => x9 (nbq (nat_lit 256) (nat_lit 1) rfl)) (fun x7 x8 => x8 (nbq (nat_lit 256) (nat_lit 2) rfl)) (fun x7 x8 x9 => x9 (nbq (nat_lit 256) (nat_lit 3) rfl)) (fun x7 => x7 (nbq (nat_lit 256) (nat_lit 4) rfl)) (fun x7 x8 x9 x10 x11 => x11 (nbq (nat_lit 256) (nat_lit 5) rfl)) (fun x7 x8 x9 x10 x11 => x11 (nbq (nat_lit 256) (nat_lit 6) rfl)) (fun x7 => x7 (nbq (nat_lit 256) (nat_lit 7) rfl)) (fun x7 _ => @Bool.rec.{1} (fun _ => Option Heap) (@Option.none _) (FupdateA_3 x0 x1 x2 x4 x5 x6 x7) (FkeyFine x0 (nat_lit 40) x6 x4)) (fun x7 => x7 (nbq (nat_lit 256) (nat_lit 9) rfl)) (fun x7 x8 x9 _ _ x12 => x12 (nbq (nat_lit 256) (nat_lit 10) rfl)) (fun x7 x8 => x8 (nbq (nat_lit 256) (nat_lit 11) rfl)) (fun x7 => x7 (nbq (nat_lit 256) (nat_lit 12) rfl)) (fun x7 x8 _ x10 => x10 (nbq (nat_lit 256) (nat_lit 13) rfl)) (fun x7 => x7 (nbq (nat_lit 256) (nat_lit 14) rfl)) (fun x7 _ x9 => x9 (nbq (nat_lit 256) (nat_lit 15) rfl)) (fun x7 _ x9 => x9 (nbq (nat_lit 256) (nat_lit 16) rfl)) PUnit.unit (fun x7 _ _ _ => PUnit.unit) x3 (fun _ => @Option.none _))
noncomputable def FupdateA : (AProg → ((List (PTree AObj)) → (Heap → (Go.TypeId → (AVal → (AVal → (AVal → (Option Heap)))))))) :=
  (fun x0 x1 x2 x3 x4 x5 x6 => @Option.rec.{1, 0} _ (fun x7 => (((Nat.hasNotBit (nat_lit 2) (@Option.ctorIdx (Prod Go.TypeId Go.TypeId) x7)) → (Option Heap)) → (Option Heap))) (fun x7 => x7 (nbq (nat_lit 2) (nat_lit 0) rfl)) (fun x7 _ => @Prod.rec.{1, 0, 0} _ _ (fun _ => Option Heap) (fun x9 _ => FupdateA_4 x0 x1 x2 x4 x5 x6 x9) x7) (FkeyType x0 x3) (fun _ => @Option.none _))
theorem FupdateA_eq : @FupdateA = @Go.Abs.updateA := by
  delta FupdateA
  delta FupdateA_4
  delta FupdateA_3
  delta FupdateA_2
  delta FupdateA_1
  delta FupdateA_0
  rw [FHeap_set_eq, FList_append_eq, FsetNth_eq, FkeyFlat_eq, FfindA_eq, FmapAt_eq, FkeyFine_eq, FkeyType_eq]; kernel_rfl
noncomputable def FwUpdate_0 : (AProg → ((List (PTree AObj)) → (Env → (Heap → (Go.TypeId → (Go.Operand → (AVal → (AVal → ARes)))))))) :=
  (fun x0 x1 x2 x3 x4 x5 x6 x7 => @Option.rec.{1, 0} _ (fun x8 => (((Nat.hasNotBit (nat_lit 2) (@Option.ctorIdx AVal x8)) → ARes) → ARes)) (fun x8 => x8 (nbq (nat_lit 2) (nat_lit 0) rfl)) (fun x8 _ => @Option.rec.{1, 0} _ (fun _ => ARes) ARes.fail (fun x10 => ARes.val FundefA x10) (FupdateA x0 x1 x3 x4 x6 x7 x8)) (Faeval x2 x5) (fun _ => ARes.fail))
noncomputable def FwUpdate_1 : (AProg → ((List (PTree AObj)) → (Env → (Heap → (Go.TypeId → (Go.Operand → (Go.Operand → (AVal → ARes)))))))) :=
  (fun x0 x1 x2 x3 x4 x5 x6 x7 => @Option.rec.{1, 0} _ (fun x8 => (((Nat.hasNotBit (nat_lit 2) (@Option.ctorIdx AVal x8)) → ARes) → ARes)) (fun x8 => x8 (nbq (nat_lit 2) (nat_lit 0) rfl)) (fun x8 _ => FwUpdate_0 x0 x1 x2 x3 x4 x6 x7 x8) (Faeval x2 x5) (fun _ => ARes.fail))
noncomputable def FwUpdate : (AProg → ((List (PTree AObj)) → (Env → (Heap → (Go.TypeId → (Go.Operand → (Go.Operand → (Go.Operand → ARes)))))))) :=
  (fun x0 x1 x2 x3 x4 x5 x6 x7 => @Option.rec.{1, 0} _ (fun x8 => (((Nat.hasNotBit (nat_lit 2) (@Option.ctorIdx AVal x8)) → ARes) → ARes)) (fun x8 => x8 (nbq (nat_lit 2) (nat_lit 0) rfl)) (fun x8 _ => FwUpdate_1 x0 x1 x2 x3 x4 x6 x7 x8) (Faeval x2 x5) (fun _ => ARes.fail))
theorem FwUpdate_eq : @FwUpdate = @Go.Abs.wUpdate := by
  delta FwUpdate
  delta FwUpdate_1
  delta FwUpdate_0
  rw [FundefA_eq, FupdateA_eq, Faeval_eq]; kernel_rfl
noncomputable def FwRange_0 : (Heap → (AVal → ARes)) :=
  (fun x0 x1 => @AVal.rec.{1} (fun x2 => (((Nat.hasNotBit (nat_lit 4) (AVal.ctorIdx x2)) → ARes) → ARes)) (fun _ => PUnit) (fun x2 x3 => x3 (nbq (nat_lit 4) (nat_lit 0) rfl)) (fun x2 x3 x4 => x4 (nbq (nat_lit 4) (nat_lit 1) rfl)) (fun x2 _ => ARes.val (AVal.ptr (Heap.next x0) (nat_lit 0)) (FHeap_new x0 (AObj.strIter x2 (nat_lit 0)))) (fun x2 x3 x4 => x4 (nbq (nat_lit 4) (nat_lit 3) rfl)) (fun x2 => x2 (nbq (nat_lit 4) (nat_lit 4) rfl)) (fun x2 x3 x4 x5 x6 => x6 (nbq (nat_lit 4) (nat_lit 5) rfl)) (fun x2 x3 x4 x5 x6 => x6 (nbq (nat_lit 4) (nat_lit 6) rfl)) (fun x2 => x2 (nbq (nat_lit 4) (nat_lit 7) rfl)) (fun x2 x3 => x3 (nbq (nat_lit 4) (nat_lit 8) rfl)) (fun x2 => x2 (nbq (nat_lit 4) (nat_lit 9) rfl)) (fun x2 x3 x4 _ _ x7 => x7 (nbq (nat_lit 4) (nat_lit 10) rfl)) (fun x2 x3 => x3 (nbq (nat_lit 4) (nat_lit 11) rfl)) (fun x2 => x2 (nbq (nat_lit 4) (nat_lit 12) rfl)) (fun x2 x3 _ x5 => x5 (nbq (nat_lit 4) (nat_lit 13) rfl)) (fun x2 => x2 (nbq (nat_lit 4) (nat_lit 14) rfl)) (fun x2 _ x4 => x4 (nbq (nat_lit 4) (nat_lit 15) rfl)) (fun x2 _ x4 => x4 (nbq (nat_lit 4) (nat_lit 16) rfl)) PUnit.unit (fun x2 _ _ _ => PUnit.unit) x1 (fun _ => ARes.fail))
noncomputable def FwRange_1 : ((List (PTree AObj)) → (Heap → (Pos → ARes))) :=
  (fun x0 x1 x2 => @Option.rec.{1, 0} _ (fun _ => ARes) ARes.fail (fun x3 => @Prod.rec.{1, 0, 0} _ _ (fun _ => ARes) (fun _ x5 => ARes.val (AVal.ptr (Heap.next x1) (nat_lit 0)) (FHeap_new x1 (AObj.mapIter (@Option.some _ x2) x5 (@List.nil _)))) x3) (FmapAt x0 x1 x2))
noncomputable def FwRange_2 : ((List (PTree AObj)) → (Heap → (AVal → ARes))) :=
  (fun x0 x1 x2 => @AVal.rec.{1} (fun x3 => (((Nat.hasNotBit (nat_lit 768) (AVal.ctorIdx x3)) → ARes) → ARes)) (fun _ => PUnit) (fun x3 x4 => x4 (nbq (nat_lit 768) (nat_lit 0) rfl)) (fun x3 x4 x5 => x5 (nbq (nat_lit 768) (nat_lit 1) rfl)) (fun x3 x4 => x4 (nbq (nat_lit 768) (nat_lit 2) rfl)) (fun x3 x4 x5 => x5 (nbq (nat_lit 768) (nat_lit 3) rfl)) (fun x3 => x3 (nbq (nat_lit 768) (nat_lit 4) rfl)) (fun x3 x4 x5 x6 x7 => x7 (nbq (nat_lit 768) (nat_lit 5) rfl)) (fun x3 x4 x5 x6 x7 => x7 (nbq (nat_lit 768) (nat_lit 6) rfl)) (fun x3 => x3 (nbq (nat_lit 768) (nat_lit 7) rfl)) (fun x3 _ => FwRange_1 x0 x1 x3) (fun _ => ARes.val (AVal.ptr (Heap.next x1) (nat_lit 0)) (FHeap_new x1 (AObj.mapIter (@Option.none _) (nat_lit 0) (@List.nil _)))) (fun x3 x4 x5 _ _ x8 => x8 (nbq (nat_lit 768) (nat_lit 10) rfl)) (fun x3 x4 => x4 (nbq (nat_lit 768) (nat_lit 11) rfl)) (fun x3 => x3 (nbq (nat_lit 768) (nat_lit 12) rfl)) (fun x3 x4 _ x6 => x6 (nbq (nat_lit 768) (nat_lit 13) rfl)) (fun x3 => x3 (nbq (nat_lit 768) (nat_lit 14) rfl)) (fun x3 _ x5 => x5 (nbq (nat_lit 768) (nat_lit 15) rfl)) (fun x3 _ x5 => x5 (nbq (nat_lit 768) (nat_lit 16) rfl)) PUnit.unit (fun x3 _ _ _ => PUnit.unit) x2 (fun _ => ARes.fail))
noncomputable def FwRange_3 : ((List (PTree AObj)) → (Env → (Heap → (Go.Operand → (Go.TypeDesc → ARes))))) :=
  (fun x0 x1 x2 x3 x4 => @Go.TypeDesc.rec.{1} (fun x5 => (((Nat.hasNotBit (nat_lit 1056) (Go.TypeDesc.ctorIdx x5)) → ARes) → ARes)) (fun x5 => x5 (nbq (nat_lit 1056) (nat_lit 0) rfl)) (fun x5 => x5 (nbq (nat_lit 1056) (nat_lit 1) rfl)) (fun x5 x6 => x6 (nbq (nat_lit 1056) (nat_lit 2) rfl)) (fun x5 x6 => x6 (nbq (nat_lit 1056) (nat_lit 3) rfl)) (fun x5 x6 => x6 (nbq (nat_lit 1056) (nat_lit 4) rfl)) (fun _ => @Option.rec.{1, 0} _ (fun x6 => (((Nat.hasNotBit (nat_lit 2) (@Option.ctorIdx AVal x6)) → ARes) → ARes)) (fun x6 => x6 (nbq (nat_lit 2) (nat_lit 0) rfl)) (fun x6 _ => FwRange_0 x2 x6) (Faeval x1 x3) (fun _ => ARes.fail)) (fun x5 => x5 (nbq (nat_lit 1056) (nat_lit 6) rfl)) (fun x5 x6 => x6 (nbq (nat_lit 1056) (nat_lit 7) rfl)) (fun x5 x6 => x6 (nbq (nat_lit 1056) (nat_lit 8) rfl)) (fun x5 x6 x7 => x7 (nbq (nat_lit 1056) (nat_lit 9) rfl)) (fun x5 x6 _ => @Option.rec.{1, 0} _ (fun x8 => (((Nat.hasNotBit (nat_lit 2) (@Option.ctorIdx AVal x8)) → ARes) → ARes)) (fun x8 => x8 (nbq (nat_lit 2) (nat_lit 0) rfl)) (fun x8 _ => FwRange_2 x0 x2 x8) (Faeval x1 x3) (fun _ => ARes.fail)) (fun x5 x6 x7 => x7 (nbq (nat_lit 1056) (nat_lit 11) rfl)) (fun x5 x6 => x6 (nbq (nat_lit 1056) (nat_lit 12) rfl)) (fun x5 x6 x7 x8 => x8 (nbq (nat_lit 1056) (nat_lit 13) rfl)) (fun x5 x6 => x6 (nbq (nat_lit 1056) (nat_lit 14) rfl)) (fun x5 x6 => x6 (nbq (nat_lit 1056) (nat_lit 15) rfl)) (fun x5 x6 x7 => x7 (nbq (nat_lit 1056) (nat_lit 16) rfl)) x4 (fun _ => ARes.fail))
noncomputable def FwRange : (AProg → ((List (PTree AObj)) → (Env → (Heap → (Go.TypeId → (Go.Operand → ARes)))))) :=
  (fun x0 x1 x2 x3 x4 x5 => @Option.rec.{1, 0} _ (fun x6 => (((Nat.hasNotBit (nat_lit 2) (@Option.ctorIdx Go.TypeDesc x6)) → ARes) → ARes)) (fun x6 => x6 (nbq (nat_lit 2) (nat_lit 0) rfl)) (fun x6 _ => FwRange_3 x1 x2 x3 x5 x6) (Fund x0 x4) (fun _ => ARes.fail))
theorem FwRange_eq : @FwRange = @Go.Abs.wRange := by
  delta FwRange
  delta FwRange_3
  delta FwRange_2
  delta FwRange_1
  delta FwRange_0
  rw [FHeap_new_eq, Faeval_eq, FmapAt_eq, Fund_eq]; kernel_rfl
noncomputable def FmemNat : (Nat → ((List Nat) → Bool)) :=
  (fun x0 x1 => @List.rec.{1, 0} _ (fun _ => Bool) Bool.false (fun x2 _ x4 => @Bool.rec.{1} (fun _ => Bool) x4 Bool.true (Nat.beq x0 x2)) x1)
theorem FmemNat_eq : @FmemNat = @Go.Abs.memNat := by
  funext p0 p1
  refine @List.rec _ (fun x => @FmemNat p0 x = @Go.Abs.memNat p0 x) ?_ ?_ p1
  · skip
    refine Eq.trans (show (@FmemNat p0 (@List.nil _)) = Bool.false by kernel_rfl) ?_
    kernel_rfl
  · intro f0 f1 h0
    refine Eq.trans (show (@FmemNat p0 (@List.cons _ f0 f1)) = (@Bool.rec.{1} (fun _ => Bool) (@FmemNat p0 f1) Bool.true (Nat.beq p0 f0)) by kernel_rfl) ?_
    generalize (@FmemNat p0 f1) = r0 at h0 ⊢
    subst h0
    kernel_rfl
noncomputable def Funseen : ((List Nat) → ((List AEntry) → (List AEntry))) :=
  (fun x0 x1 => @List.rec.{1, 0} _ (fun _ => List AEntry) (@List.nil _) (fun x2 _ x4 => @Bool.rec.{1} (fun _ => List AEntry) (@List.cons _ x2 x4) x4 (FmemNat (AEntry.born x2) x0)) x1)
theorem Funseen_eq : @Funseen = @Go.Abs.unseen := by
  funext p0 p1
  refine @List.rec _ (fun x => @Funseen p0 x = @Go.Abs.unseen p0 x) ?_ ?_ p1
  · skip
    refine Eq.trans (show (@Funseen p0 (@List.nil _)) = (@List.nil _) by kernel_rfl) ?_
    kernel_rfl
  · intro f0 f1 h0
    refine Eq.trans (show (@Funseen p0 (@List.cons _ f0 f1)) = (@Bool.rec.{1} (fun _ => List AEntry) (@List.cons _ f0 (@Funseen p0 f1)) (@Funseen p0 f1) (FmemNat (AEntry.born f0) p0)) by kernel_rfl) ?_
    generalize (@Funseen p0 f1) = r0 at h0 ⊢
    subst h0
    rw [FmemNat_eq]
    kernel_rfl
noncomputable def FwNext_0 : (Heap → (Pos → ((List Nat) → (Nat → (Nat → ARes))))) :=
  (fun x0 x1 x2 x3 x4 => ARes.val (AVal.tuple (@List.cons _ (AVal.bool Bool.true) (@List.cons _ (AVal.int Go.IntKind.i64 (Int.ofNat x3)) (@List.cons _ (AVal.int Go.IntKind.i32 (Int.ofNat x4)) (@List.nil _))))) (FHeap_set x0 x1 (AObj.strIter x2 (Nat.succ x3))))
noncomputable def FwNext_1 : (Heap → (Pos → ((List Nat) → (Nat → ARes)))) :=
  (fun x0 x1 x2 x3 => @List.rec.{1, 0} _ (fun _ => ARes) (ARes.val (AVal.tuple (@List.cons _ (AVal.bool Bool.false) (@List.nil _))) x0) (fun x4 _ _ => @Bool.rec.{1} (fun _ => ARes) ARes.fail (FwNext_0 x0 x1 x2 x3 x4) (Nat.ble (Nat.succ x4) (nat_lit 128))) (FdropN Nat x3 x2))
noncomputable def FwNext_2 : (Heap → (Bool → ARes)) :=
  (fun x0 x1 => @Bool.rec.{1} (fun x2 => (((Nat.hasNotBit (nat_lit 1) (Bool.ctorIdx x2)) → ARes) → ARes)) (fun _ => ARes.val (AVal.tuple (@List.cons _ (AVal.bool Bool.false) (@List.nil _))) x0) (fun x2 => x2 (nbq (nat_lit 1) (nat_lit 1) rfl)) x1 (fun _ => ARes.fail))
noncomputable def FwNext_3 : (Heap → (Pos → (Nat → ((List Nat) → (Pos → ((List AEntry) → ARes)))))) :=
  (fun x0 x1 x2 x3 x4 x5 => @List.rec.{1, 0} _ (fun _ => ARes) (ARes.val (AVal.tuple (@List.cons _ (AVal.bool Bool.false) (@List.nil _))) x0) (fun x6 x7 _ => ARes.next x1 x4 x2 x3 (@List.cons _ x6 x7)) (Funseen x3 x5))
noncomputable def FwNext_4 : ((List (PTree AObj)) → (Heap → (Pos → (Nat → ((List Nat) → (Pos → ARes)))))) :=
  (fun x0 x1 x2 x3 x4 x5 => @Option.rec.{1, 0} _ (fun _ => ARes) ARes.fail (fun x6 => @Prod.rec.{1, 0, 0} _ _ (fun _ => ARes) (fun x7 x8 => @Bool.rec.{1} (fun _ => ARes) ARes.fail (FwNext_3 x1 x2 x3 x4 x5 x7) (Nat.beq x8 x3)) x6) (FmapAt x0 x1 x5))
noncomputable def FwNext_5 : ((List (PTree AObj)) → (Heap → (Bool → (Pos → ((Option Pos) → (Nat → ((List Nat) → ARes))))))) :=
  (fun x0 x1 x2 x3 x4 x5 x6 => @Option.rec.{1, 0} _ (fun _ => ARes) (FwNext_2 x1 x2) (fun x7 => @Bool.rec.{1} (fun x8 => (((Nat.hasNotBit (nat_lit 1) (Bool.ctorIdx x8)) → ARes) → ARes)) (fun _ => FwNext_4 x0 x1 x3 x5 x6 x7) (fun x8 => x8 (nbq (nat_lit 1) (nat_lit 1) rfl)) x2 (fun _ => ARes.fail)) x4)
noncomputable def FwNext_6 : ((List (PTree AObj)) → (Heap → (Bool → (Pos → (AObj → ARes))))) :=
  (fun x0 x1 x2 x3 x4 => @AObj.rec.{1} (fun x5 => (((Nat.hasNotBit (nat_lit 12) (AObj.ctorIdx x5)) → ARes) → ARes)) (fun x5 x6 x7 x8 x9 => x9 (nbq (nat_lit 12) (nat_lit 0) rfl)) (fun x5 x6 x7 => x7 (nbq (nat_lit 12) (nat_lit 1) rfl)) (fun x5 x6 _ => @Bool.rec.{1} (fun x8 => (((Nat.hasNotBit (nat_lit 2) (Bool.ctorIdx x8)) → ARes) → ARes)) (fun x8 => x8 (nbq (nat_lit 2) (nat_lit 0) rfl)) (fun _ => FwNext_1 x1 x3 x5 x6) x2 (fun _ => ARes.fail)) (fun x5 x6 x7 _ => FwNext_5 x0 x1 x2 x3 x5 x6 x7) (fun x5 x6 => x6 (nbq (nat_lit 12) (nat_lit 4) rfl)) (fun x5 x6 => x6 (nbq (nat_lit 12) (nat_lit 5) rfl)) (fun x5 => x5 (nbq (nat_lit 12) (nat_lit 6) rfl)) x4 (fun _ => ARes.fail))
noncomputable def FwNext_7 : ((List (PTree AObj)) → (Heap → (Bool → (Pos → (Nat → ARes))))) :=
  (fun x0 x1 x2 x3 x4 => @dite ARes (@Eq Nat x4 (nat_lit 0)) (Nat.decEq x4 (nat_lit 0)) (@Eq.ndrec_symm Nat (nat_lit 0) (fun _ => ARes) (@Option.rec.{1, 0} _ (fun x5 => (((Nat.hasNotBit (nat_lit 2) (@Option.ctorIdx AObj x5)) → ARes) → ARes)) (fun x5 => x5 (nbq (nat_lit 2) (nat_lit 0) rfl)) (fun x5 _ => FwNext_6 x0 x1 x2 x3 x5) (Fhget x0 x1 x3) (fun _ => ARes.fail)) x4) (fun _ => ARes.fail))
noncomputable def FwNext_8 : ((List (PTree AObj)) → (Heap → (Bool → (AVal → ARes)))) :=
  (fun x0 x1 x2 x3 => @AVal.rec.{1} (fun x4 => (((Nat.hasNotBit (nat_lit 8) (AVal.ctorIdx x4)) → ARes) → ARes)) (fun _ => PUnit) (fun x4 x5 => x5 (nbq (nat_lit 8) (nat_lit 0) rfl)) (fun x4 x5 x6 => x6 (nbq (nat_lit 8) (nat_lit 1) rfl)) (fun x4 x5 => x5 (nbq (nat_lit 8) (nat_lit 2) rfl)) (fun x4 x5 _ => FwNext_7 x0 x1 x2 x4 x5) (fun x4 => x4 (nbq (nat_lit 8) (nat_lit 4) rfl)) (fun x4 x5 x6 x7 x8 => x8 (nbq (nat_lit 8) (nat_lit 5) rfl)) (fun x4 x5 x6 x7 x8 => x8 (nbq (nat_lit 8) (nat_lit 6) rfl)) (fun x4 => x4 (nbq (nat_lit 8) (nat_lit 7) rfl)) (fun x4 x5 => x5 (nbq (nat_lit 8) (nat_lit 8) rfl)) (fun x4 => x4 (nbq (nat_lit 8) (nat_lit 9) rfl)) (fun x4 x5 x6 _ _ x9 => x9 (nbq (nat_lit 8) (nat_lit 10) rfl)) (fun x4 x5 => x5 (nbq (nat_lit 8) (nat_lit 11) rfl)) (fun x4 => x4 (nbq (nat_lit 8) (nat_lit 12) rfl)) (fun x4 x5 _ x7 => x7 (nbq (nat_lit 8) (nat_lit 13) rfl)) (fun x4 => x4 (nbq (nat_lit 8) (nat_lit 14) rfl)) (fun x4 _ x6 => x6 (nbq (nat_lit 8) (nat_lit 15) rfl)) (fun x4 _ x6 => x6 (nbq (nat_lit 8) (nat_lit 16) rfl)) PUnit.unit (fun x4 _ _ _ => PUnit.unit) x3 (fun _ => ARes.fail))
noncomputable def FwNext : ((List (PTree AObj)) → (Env → (Heap → (Go.Operand → (Bool → ARes))))) :=
  (fun x0 x1 x2 x3 x4 => @Option.rec.{1, 0} _ (fun x5 => (((Nat.hasNotBit (nat_lit 2) (@Option.ctorIdx AVal x5)) → ARes) → ARes)) (fun x5 => x5 (nbq (nat_lit 2) (nat_lit 0) rfl)) (fun x5 _ => FwNext_8 x0 x2 x4 x5) (Faeval x1 x3) (fun _ => ARes.fail))
theorem FwNext_eq : @FwNext = @Go.Abs.wNext := by
  delta FwNext
  delta FwNext_8
  delta FwNext_7
  delta FwNext_6
  delta FwNext_5
  delta FwNext_4
  delta FwNext_3
  delta FwNext_2
  delta FwNext_1
  delta FwNext_0
  rw [FHeap_set_eq, FdropN_eq, Funseen_eq, FmapAt_eq, Fhget_eq, Faeval_eq]; kernel_rfl
noncomputable def Fsmall : (Nat → Bool) :=
  (fun x0 => Nat.ble x0 (nat_lit 1048576))
theorem Fsmall_eq : @Fsmall = @Go.Abs.small := by
  delta Fsmall
  kernel_rfl
noncomputable def FwAppend_lenOf : (AVal → Nat) :=
  (fun x0 => @AVal.rec.{1} (fun _ => Nat) (fun _ => PUnit) (fun _ => (nat_lit 0)) (fun _ _ => (nat_lit 0)) (fun _ => (nat_lit 0)) (fun _ _ => (nat_lit 0)) (nat_lit 0) (fun _ _ x3 _ => x3) (fun _ _ x3 _ => x3) (nat_lit 0) (fun _ => (nat_lit 0)) (nat_lit 0) (fun _ _ _ _ _ => (nat_lit 0)) (fun _ => (nat_lit 0)) (nat_lit 0) (fun _ x2 _ => (nat_lit 0)) (nat_lit 0) (fun _ _ => (nat_lit 0)) (fun _ _ => (nat_lit 0)) PUnit.unit (fun x1 _ _ _ => PUnit.unit) x0)
theorem FwAppend_lenOf_eq : @FwAppend_lenOf = @Go.Abs.wAppend.lenOf := by
  delta FwAppend_lenOf
  funext p0; cases p0 <;> kernel_rfl
noncomputable def FappendNone : (Heap → (AVal → ARes)) :=
  (fun x0 x1 => @AVal.rec.{1} (fun _ => (Heap → ARes)) (fun _ => PUnit) (fun _ _ => ARes.fail) (fun _ _ _ => ARes.fail) (fun _ _ => ARes.fail) (fun _ _ _ => ARes.fail) (fun _ => ARes.fail) (fun x2 x3 x4 x5 x6 => @Bool.rec.{1} (fun _ => ARes) ARes.fail (ARes.val (AVal.slice x2 x3 x4 x5) x6) (Nat.ble x4 x5)) (fun x2 x3 x4 x5 x6 => ARes.val (AVal.sliceO x2 x3 x4 x5) x6) (fun x2 => ARes.val AVal.nilSlice x2) (fun _ _ => ARes.fail) (fun _ => ARes.fail) (fun _ _ _ _ _ _ => ARes.fail) (fun _ _ => ARes.fail) (fun _ => ARes.fail) (fun _ x3 _ _ => ARes.fail) (fun _ => ARes.fail) (fun _ _ _ => ARes.fail) (fun _ _ _ => ARes.fail) PUnit.unit (fun x2 _ _ _ => PUnit.unit) x1 x0)
theorem FappendNone_eq : @FappendNone = @Go.Abs.appendNone := by
  delta FappendNone
  funext p0 p1; cases p1 <;> kernel_rfl
noncomputable def FappendTo_0 : (Nat → (Nat → (Heap → (Nat → ((List AVal) → (Nat → ((List AVal) → ARes))))))) :=
  (fun x0 x1 x2 x3 x4 x5 x6 => @Option.rec.{1, 0} _ (fun _ => ARes) ARes.fail (fun x7 => ARes.val (AVal.sliceO (Heap.next x2) (nat_lit 0) (Nat.add x1 x5) x3) (FHeap_new x2 (AObj.cells (FList_append AVal x7 x4) x3 Bool.false Bool.false))) (FtakeN AVal (Nat.mul x1 x3) (FdropN AVal x0 x6)))
noncomputable def FappendTo_1 : (Pos → (Nat → (Nat → (Nat → ((List (PTree AObj)) → (Heap → (Nat → ((List AVal) → (Nat → ARes))))))))) :=
  (fun x0 x1 x2 x3 x4 x5 x6 x7 x8 => @Bool.rec.{1} (fun _ => ARes) (@Option.rec.{1, 0} _ (fun _ => ARes) ARes.fail (fun x9 => FappendTo_0 x1 x2 x5 x6 x7 x8 x9) (FcellsAt x4 x5 x0)) (@Option.rec.{1, 0} _ (fun _ => ARes) ARes.fail (fun x9 => ARes.val (AVal.slice x0 x1 (Nat.add x2 x8) x3) x9) (FstoreA x4 x5 x0 (Nat.add x1 (Nat.mul x2 x6)) x7)) (Nat.ble (Nat.add x2 x8) x3))
noncomputable def FappendTo_2 : (Pos → (Nat → (Nat → (Heap → (Nat → ((List AVal) → (Nat → ((List AVal) → ARes)))))))) :=
  (fun x0 x1 x2 x3 x4 x5 x6 x7 => @Option.rec.{1, 0} _ (fun _ => ARes) ARes.fail (fun x8 => ARes.val (AVal.sliceO (Heap.next x3) (nat_lit 0) (Nat.add x2 x6) x4) (FHeap_new (FHeap_set x3 x0 AObj.gone) (AObj.cells (FList_append AVal x8 x5) x4 Bool.true Bool.false))) (FtakeN AVal (Nat.mul x2 x4) (FdropN AVal x1 x7)))
noncomputable def FappendTo_3 : (Pos → (Nat → (Nat → ((List (PTree AObj)) → (Heap → (Nat → ((List AVal) → (Nat → ((List AVal) → ARes))))))))) :=
  (fun x0 x1 x2 x3 x4 x5 x6 x7 x8 => @Bool.rec.{1} (fun _ => ARes) (FappendTo_2 x0 x1 x2 x4 x5 x6 x7 x8) (@Option.rec.{1, 0} _ (fun _ => ARes) ARes.fail (fun x9 => ARes.val (AVal.sliceO x0 x1 (Nat.add x2 x7) x5) x9) (FstoreA x3 x4 x0 (Nat.add x1 (Nat.mul x2 x5)) x6)) (Nat.ble (Nat.add x1 (Nat.mul (Nat.add x2 x7) x5)) (FList_length AVal x8)))
noncomputable def FappendTo_4 : (Pos → (Nat → (Nat → ((List (PTree AObj)) → (Heap → (Nat → ((List AVal) → (Nat → ((List AVal) → (Bool → ARes)))))))))) :=
  (fun x0 x1 x2 x3 x4 x5 x6 x7 x8 x9 => @Bool.rec.{1} (fun x10 => (((Nat.hasNotBit (nat_lit 1) (Bool.ctorIdx x10)) → ARes) → ARes)) (fun _ => FappendTo_3 x0 x1 x2 x3 x4 x5 x6 x7 x8) (fun x10 => x10 (nbq (nat_lit 1) (nat_lit 1) rfl)) x9 (fun _ => ARes.fail))
noncomputable def FappendTo_5 : (Pos → (Nat → (Nat → ((List (PTree AObj)) → (Heap → (Nat → ((List AVal) → (Nat → ((List AVal) → (Nat → (Bool → ARes))))))))))) :=
  (fun x0 x1 x2 x3 x4 x5 x6 x7 x8 x9 x10 => @Nat.rec.{1} (fun x11 => (((Nat.hasNotBit (nat_lit 2) (Nat.ctorIdx x11)) → ARes) → ARes)) (fun x11 => x11 (nbq (nat_lit 2) (nat_lit 0) rfl)) (fun x11 _ _ => FappendTo_4 x0 x1 x2 x3 x4 x5 x6 x7 x8 x10) x9 (fun _ => ARes.fail))
noncomputable def FappendTo_6 : (Pos → (Nat → (Nat → ((List (PTree AObj)) → (Heap → (Nat → ((List AVal) → (Nat → (AObj → ARes))))))))) :=
  (fun x0 x1 x2 x3 x4 x5 x6 x7 x8 => @AObj.rec.{1} (fun x9 => (((Nat.hasNotBit (nat_lit 1) (AObj.ctorIdx x9)) → ARes) → ARes)) (fun x9 x10 x11 x12 _ => FappendTo_5 x0 x1 x2 x3 x4 x5 x6 x7 x9 x10 x12) (fun x9 x10 x11 => x11 (nbq (nat_lit 1) (nat_lit 1) rfl)) (fun x9 x10 x11 => x11 (nbq (nat_lit 1) (nat_lit 2) rfl)) (fun x9 x10 x11 x12 => x12 (nbq (nat_lit 1) (nat_lit 3) rfl)) (fun x9 x10 => x10 (nbq (nat_lit 1) (nat_lit 4) rfl)) (fun x9 x10 => x10 (nbq (nat_lit 1) (nat_lit 5) rfl)) (fun x9 => x9 (nbq (nat_lit 1) (nat_lit 6) rfl)) x8 (fun _ => ARes.fail))
noncomputable def FappendTo_7 : (Pos → (Nat → (Nat → ((List (PTree AObj)) → (Heap → (Nat → ((List AVal) → (Nat → ARes)))))))) :=
  (fun x0 x1 x2 x3 x4 x5 x6 x7 => @Option.rec.{1, 0} _ (fun x8 => (((Nat.hasNotBit (nat_lit 2) (@Option.ctorIdx AObj x8)) → ARes) → ARes)) (fun x8 => x8 (nbq (nat_lit 2) (nat_lit 0) rfl)) (fun x8 _ => FappendTo_6 x0 x1 x2 x3 x4 x5 x6 x7 x8) (Fhget x3 x4 x0) (fun _ => ARes.fail))
noncomputable def FappendTo : ((List (PTree AObj)) → (Heap → (Nat → (AVal → ((List AVal) → (Nat → ARes)))))) :=
  (fun x0 x1 x2 x3 x4 x5 => @AVal.rec.{1} (fun _ => ((List (PTree AObj)) → (Heap → (Nat → ((List AVal) → (Nat → ARes)))))) (fun _ => PUnit) (fun _ _ _ _ _ _ => ARes.fail) (fun _ _ _ _ _ _ _ => ARes.fail) (fun _ _ _ _ _ _ => ARes.fail) (fun _ _ _ _ _ _ _ => ARes.fail) (fun _ _ _ _ _ => ARes.fail) (fun x6 x7 x8 x9 x10 x11 x12 x13 x14 => FappendTo_1 x6 x7 x8 x9 x10 x11 x12 x13 x14) (fun x6 x7 x8 x9 x10 x11 x12 x13 x14 => @Bool.rec.{1} (fun _ => ARes) ARes.fail (FappendTo_7 x6 x7 x8 x10 x11 x12 x13 x14) (Nat.beq x12 x9)) (fun _ x7 x8 x9 x10 => ARes.val (AVal.sliceO (Heap.next x7) (nat_lit 0) x10 x8) (FHeap_new x7 (AObj.cells x9 x8 Bool.false Bool.false))) (fun _ _ _ _ _ _ => ARes.fail) (fun _ _ _ _ _ => ARes.fail) (fun _ _ _ _ _ _ _ _ _ _ => ARes.fail) (fun _ _ _ _ _ _ => ARes.fail) (fun _ _ _ _ _ => ARes.fail) (fun _ x7 _ _ _ _ _ _ => ARes.fail) (fun _ _ _ _ _ => ARes.fail) (fun _ _ _ _ _ _ _ => ARes.fail) (fun _ _ _ _ _ _ _ => ARes.fail) PUnit.unit (fun x6 _ _ _ => PUnit.unit) x3 x0 x1 x2 x4 x5)
theorem FappendTo_eq : @FappendTo = @Go.Abs.appendTo := by
  delta FappendTo
  delta FappendTo_7
  delta FappendTo_6
  delta FappendTo_5
  delta FappendTo_4
  delta FappendTo_3
  delta FappendTo_2
  delta FappendTo_1
  delta FappendTo_0
  rw [FHeap_new_eq, FList_append_eq, FtakeN_eq, FdropN_eq, FcellsAt_eq, FstoreA_eq, FHeap_set_eq, FList_length_eq, Fhget_eq]; funext p0 p1 p2 p3 p4 p5; cases p3 <;> kernel_rfl
noncomputable def FsrcCells_0 : (Nat → (Nat → (Nat → ((List AVal) → (Option (Prod (List AVal) Nat)))))) :=
  (fun x0 x1 x2 x3 => @Option.rec.{1, 0} _ (fun _ => Option (Prod (List AVal) Nat)) (@Option.none _) (fun x4 => @Option.some _ (@Prod.mk _ _ x4 x1)) (FtakeN AVal (Nat.mul x1 x2) (FdropN AVal x0 x3)))
noncomputable def FsrcCells : ((List (PTree AObj)) → (Heap → (Nat → (AVal → (Option (Prod (List AVal) Nat)))))) :=
  (fun x0 x1 x2 x3 => @AVal.rec.{1} (fun _ => ((List (PTree AObj)) → (Heap → (Nat → (Option (Prod (List AVal) Nat)))))) (fun _ => PUnit) (fun _ _ _ _ => @Option.none _) (fun _ _ _ _ _ => @Option.none _) (fun x4 _ _ _ => @Option.some _ (@Prod.mk _ _ (FbytesVals x4) (FList_length Nat x4))) (fun _ _ _ _ _ => @Option.none _) (fun _ _ _ => @Option.none _) (fun x4 x5 x6 _ x8 x9 x10 => @Option.rec.{1, 0} _ (fun _ => Option (Prod (List AVal) Nat)) (@Option.none _) (fun x11 => FsrcCells_0 x5 x6 x10 x11) (FcellsAt x8 x9 x4)) (fun x4 x5 x6 _ x8 x9 x10 => @Option.rec.{1, 0} _ (fun _ => Option (Prod (List AVal) Nat)) (@Option.none _) (fun x11 => FsrcCells_0 x5 x6 x10 x11) (FcellsAt x8 x9 x4)) (fun _ _ _ => @Option.some _ (@Prod.mk _ _ (@List.nil _) (nat_lit 0))) (fun _ _ _ _ => @Option.none _) (fun _ _ _ => @Option.none _) (fun _ _ _ _ _ _ _ _ => @Option.none _) (fun _ _ _ _ => @Option.none _) (fun _ _ _ => @Option.none _) (fun _ x5 _ _ _ _ => @Option.none _) (fun _ _ _ => @Option.none _) (fun _ _ _ _ _ => @Option.none _) (fun _ _ _ _ _ => @Option.none _) PUnit.unit (fun x4 _ _ _ => PUnit.unit) x3 x0 x1 x2)
theorem FsrcCells_eq : @FsrcCells = @Go.Abs.srcCells := by
  delta FsrcCells
  delta FsrcCells_0
  rw [FbytesVals_eq, FList_length_eq, FtakeN_eq, FdropN_eq, FcellsAt_eq]; funext p0 p1 p2 p3; cases p3 <;> kernel_rfl
noncomputable def FwAppend_textFits : (Nat → (AVal → Bool)) :=
  (fun x0 x1 => @AVal.rec.{1} (fun _ => (Nat → Bool)) (fun _ => PUnit) (fun _ _ => Bool.true) (fun _ _ _ => Bool.true) (fun _ x3 => Nat.beq x3 (nat_lit 1)) (fun _ _ _ => Bool.true) (fun _ => Bool.true) (fun _ _ _ _ _ => Bool.true) (fun _ _ _ _ _ => Bool.true) (fun _ => Bool.true) (fun _ _ => Bool.true) (fun _ => Bool.true) (fun _ _ _ _ _ _ => Bool.true) (fun _ _ => Bool.true) (fun _ => Bool.true) (fun _ x3 _ _ => Bool.true) (fun _ => Bool.true) (fun _ _ _ => Bool.true) (fun _ _ _ => Bool.true) PUnit.unit (fun x2 _ _ _ => PUnit.unit) x1 x0)
theorem FwAppend_textFits_eq : @FwAppend_textFits = @Go.Abs.wAppend.textFits := by
  delta FwAppend_textFits
  funext p0 p1; cases p1 <;> kernel_rfl
noncomputable def FwAppend_0 : ((List (PTree AObj)) → (Heap → (AVal → (Nat → (AVal → (Nat → ARes)))))) :=
  (fun x0 x1 x2 x3 x4 x5 => @Bool.rec.{1} (fun _ => ARes) ARes.fail (@Nat.rec.{1} (fun _ => ARes) (FappendNone x1 x2) (fun _ _ => @Nat.rec.{1} (fun _ => ARes) ARes.fail (fun _ _ => FappendTo x0 x1 x3 x2 (Frepl AVal x5 (FAVal_cells x4)) x5) x3) x5) (Bool.and (Bool.and (Fsmall x5) (Fsmall (Nat.add (FwAppend_lenOf x2) x5))) (FallOne (FAVal_cells x4))))
noncomputable def FwAppend_1 : ((List (PTree AObj)) → (Heap → (AVal → (Nat → (AVal → (Go.IntKind → (Int → ARes))))))) :=
  (fun x0 x1 x2 x3 x4 x5 x6 => @Go.IntKind.rec.{1} (fun x7 => (((Nat.hasNotBit (nat_lit 8) (Go.IntKind.ctorIdx x7)) → ARes) → ARes)) (fun x7 => x7 (nbq (nat_lit 8) (nat_lit 0) rfl)) (fun x7 => x7 (nbq (nat_lit 8) (nat_lit 1) rfl)) (fun x7 => x7 (nbq (nat_lit 8) (nat_lit 2) rfl)) (fun _ => @Int.rec.{1} (fun x8 => (((Nat.hasNotBit (nat_lit 1) (Int.ctorIdx x8)) → ARes) → ARes)) (fun x8 _ => FwAppend_0 x0 x1 x2 x3 x4 x8) (fun x8 x9 => x9 (nbq (nat_lit 1) (nat_lit 1) rfl)) x6 (fun _ => ARes.fail)) (fun x7 => x7 (nbq (nat_lit 8) (nat_lit 4) rfl)) (fun x7 => x7 (nbq (nat_lit 8) (nat_lit 5) rfl)) (fun x7 => x7 (nbq (nat_lit 8) (nat_lit 6) rfl)) (fun x7 => x7 (nbq (nat_lit 8) (nat_lit 7) rfl)) x5 (fun _ => ARes.fail))
noncomputable def FwAppend_2 : ((List (PTree AObj)) → (Heap → (AVal → (AVal → (Nat → (AVal → ARes)))))) :=
  (fun x0 x1 x2 x3 x4 x5 => @AVal.rec.{1} (fun x6 => (((Nat.hasNotBit (nat_lit 2) (AVal.ctorIdx x6)) → ARes) → ARes)) (fun _ => PUnit) (fun x6 x7 => x7 (nbq (nat_lit 2) (nat_lit 0) rfl)) (fun x6 x7 _ => FwAppend_1 x0 x1 x2 x4 x5 x6 x7) (fun x6 x7 => x7 (nbq (nat_lit 2) (nat_lit 2) rfl)) (fun x6 x7 x8 => x8 (nbq (nat_lit 2) (nat_lit 3) rfl)) (fun x6 => x6 (nbq (nat_lit 2) (nat_lit 4) rfl)) (fun x6 x7 x8 x9 x10 => x10 (nbq (nat_lit 2) (nat_lit 5) rfl)) (fun x6 x7 x8 x9 x10 => x10 (nbq (nat_lit 2) (nat_lit 6) rfl)) (fun x6 => x6 (nbq (nat_lit 2) (nat_lit 7) rfl)) (fun x6 x7 => x7 (nbq (nat_lit 2) (nat_lit 8) rfl)) (fun x6 => x6 (nbq (nat_lit 2) (nat_lit 9) rfl)) (fun x6 x7 x8 _ _ x11 => x11 (nbq (nat_lit 2) (nat_lit 10) rfl)) (fun x6 x7 => x7 (nbq (nat_lit 2) (nat_lit 11) rfl)) (fun x6 => x6 (nbq (nat_lit 2) (nat_lit 12) rfl)) (fun x6 x7 _ x9 => x9 (nbq (nat_lit 2) (nat_lit 13) rfl)) (fun x6 => x6 (nbq (nat_lit 2) (nat_lit 14) rfl)) (fun x6 _ x8 => x8 (nbq (nat_lit 2) (nat_lit 15) rfl)) (fun x6 _ x8 => x8 (nbq (nat_lit 2) (nat_lit 16) rfl)) PUnit.unit (fun x6 _ _ _ => PUnit.unit) x3 (fun _ => ARes.fail))
noncomputable def FwAppend_3 : ((List (PTree AObj)) → (Heap → (AVal → (AVal → (Nat → ((List AVal) → (Nat → ARes))))))) :=
  (fun x0 x1 x2 x3 x4 x5 x6 => @Bool.rec.{1} (fun _ => ARes) ARes.fail (@Nat.rec.{1} (fun _ => ARes) (FappendNone x1 x2) (fun _ _ => @Nat.rec.{1} (fun _ => ARes) ARes.fail (fun _ _ => FappendTo x0 x1 x4 x2 x5 x6) x4) x6) (Bool.and (Bool.and (Fsmall (Nat.add (FwAppend_lenOf x2) x6)) (FallOne x5)) (FwAppend_textFits x4 x3)))
noncomputable def FwAppend_4 : ((List (PTree AObj)) → (Heap → (AVal → (AVal → (Nat → (AVal → (Go.TypeDesc → ARes))))))) :=
  (fun x0 x1 x2 x3 x4 x5 x6 => @Go.TypeDesc.rec.{1} (fun x7 => (((Nat.hasNotBit (nat_lit 4) (Go.TypeDesc.ctorIdx x7)) → ARes) → ARes)) (fun x7 => x7 (nbq (nat_lit 4) (nat_lit 0) rfl)) (fun x7 => x7 (nbq (nat_lit 4) (nat_lit 1) rfl)) (fun x7 _ => FwAppend_2 x0 x1 x2 x3 x4 x5) (fun x7 x8 => x8 (nbq (nat_lit 4) (nat_lit 3) rfl)) (fun x7 x8 => x8 (nbq (nat_lit 4) (nat_lit 4) rfl)) (fun x7 => x7 (nbq (nat_lit 4) (nat_lit 5) rfl)) (fun x7 => x7 (nbq (nat_lit 4) (nat_lit 6) rfl)) (fun x7 x8 => x8 (nbq (nat_lit 4) (nat_lit 7) rfl)) (fun x7 x8 => x8 (nbq (nat_lit 4) (nat_lit 8) rfl)) (fun x7 x8 x9 => x9 (nbq (nat_lit 4) (nat_lit 9) rfl)) (fun x7 x8 x9 => x9 (nbq (nat_lit 4) (nat_lit 10) rfl)) (fun x7 x8 x9 => x9 (nbq (nat_lit 4) (nat_lit 11) rfl)) (fun x7 x8 => x8 (nbq (nat_lit 4) (nat_lit 12) rfl)) (fun x7 x8 x9 x10 => x10 (nbq (nat_lit 4) (nat_lit 13) rfl)) (fun x7 x8 => x8 (nbq (nat_lit 4) (nat_lit 14) rfl)) (fun x7 x8 => x8 (nbq (nat_lit 4) (nat_lit 15) rfl)) (fun x7 x8 x9 => x9 (nbq (nat_lit 4) (nat_lit 16) rfl)) x6 (fun _ => @Option.rec.{1, 0} _ (fun _ => ARes) ARes.fail (fun x8 => @Prod.rec.{1, 0, 0} _ _ (fun _ => ARes) (fun x9 x10 => FwAppend_3 x0 x1 x2 x3 x4 x9 x10) x8) (FsrcCells x0 x1 x4 x3)))
noncomputable def FwAppend_5 : (AProg → ((List (PTree AObj)) → (Heap → (AVal → (AVal → (Go.TypeId → (Nat → (Nat → (AVal → ARes))))))))) :=
  (fun x0 x1 x2 x3 x4 x5 x6 x7 x8 => @Option.rec.{1, 0} _ (fun x9 => (((Nat.hasNotBit (nat_lit 2) (@Option.ctorIdx Go.TypeDesc x9)) → ARes) → ARes)) (fun x9 => x9 (nbq (nat_lit 2) (nat_lit 0) rfl)) (fun x9 _ => @Bool.rec.{1} (fun _ => ARes) ARes.fail (FwAppend_4 x1 x2 x3 x4 x6 x8 x9) (Bool.and (Bool.and (Fsmall x7) (Fsmall x6)) (Nat.beq (FList_length AVal (FAVal_cells x8)) x6))) (Fund x0 x5) (fun _ => ARes.fail))
noncomputable def FwAppend_6 : (AProg → ((List (PTree AObj)) → (Heap → (AVal → (AVal → (Go.TypeId → (Go.TypeId → (Nat → (Nat → ARes))))))))) :=
  (fun x0 x1 x2 x3 x4 x5 x6 x7 x8 => @Option.rec.{1, 0} _ (fun x9 => (((Nat.hasNotBit (nat_lit 2) (@Option.ctorIdx AVal x9)) → ARes) → ARes)) (fun x9 => x9 (nbq (nat_lit 2) (nat_lit 0) rfl)) (fun x9 _ => FwAppend_5 x0 x1 x2 x3 x4 x5 x7 x8 x9) (FzeroA x0 x6) (fun _ => ARes.fail))
noncomputable def FwAppend_7 : (AProg → ((List (PTree AObj)) → (Heap → (AVal → (AVal → (Go.TypeId → (Go.TypeId → (Nat → ARes)))))))) :=
  (fun x0 x1 x2 x3 x4 x5 x6 x7 => @Option.rec.{1, 0} _ (fun x8 => (((Nat.hasNotBit (nat_lit 2) (@Option.ctorIdx Nat x8)) → ARes) → ARes)) (fun x8 => x8 (nbq (nat_lit 2) (nat_lit 0) rfl)) (fun x8 _ => FwAppend_6 x0 x1 x2 x3 x4 x5 x6 x7 x8) (FbytesA x0 x6) (fun _ => ARes.fail))
noncomputable def FwAppend_8 : (AProg → ((List (PTree AObj)) → (Heap → (AVal → (AVal → (Go.TypeId → (Go.TypeId → ARes))))))) :=
  (fun x0 x1 x2 x3 x4 x5 x6 => @Option.rec.{1, 0} _ (fun x7 => (((Nat.hasNotBit (nat_lit 2) (@Option.ctorIdx Nat x7)) → ARes) → ARes)) (fun x7 => x7 (nbq (nat_lit 2) (nat_lit 0) rfl)) (fun x7 _ => FwAppend_7 x0 x1 x2 x3 x4 x5 x6 x7) (FsizeA x0 x6) (fun _ => ARes.fail))
noncomputable def FwAppend_9 : (AProg → ((List (PTree AObj)) → (Heap → (AVal → (AVal → (Go.TypeId → (Go.TypeDesc → ARes))))))) :=
  (fun x0 x1 x2 x3 x4 x5 x6 => @Go.TypeDesc.rec.{1} (fun x7 => (((Nat.hasNotBit (nat_lit 256) (Go.TypeDesc.ctorIdx x7)) → ARes) → ARes)) (fun x7 => x7 (nbq (nat_lit 256) (nat_lit 0) rfl)) (fun x7 => x7 (nbq (nat_lit 256) (nat_lit 1) rfl)) (fun x7 x8 => x8 (nbq (nat_lit 256) (nat_lit 2) rfl)) (fun x7 x8 => x8 (nbq (nat_lit 256) (nat_lit 3) rfl)) (fun x7 x8 => x8 (nbq (nat_lit 256) (nat_lit 4) rfl)) (fun x7 => x7 (nbq (nat_lit 256) (nat_lit 5) rfl)) (fun x7 => x7 (nbq (nat_lit 256) (nat_lit 6) rfl)) (fun x7 x8 => x8 (nbq (nat_lit 256) (nat_lit 7) rfl)) (fun x7 _ => FwAppend_8 x0 x1 x2 x3 x4 x5 x7) (fun x7 x8 x9 => x9 (nbq (nat_lit 256) (nat_lit 9) rfl)) (fun x7 x8 x9 => x9 (nbq (nat_lit 256) (nat_lit 10) rfl)) (fun x7 x8 x9 => x9 (nbq (nat_lit 256) (nat_lit 11) rfl)) (fun x7 x8 => x8 (nbq (nat_lit 256) (nat_lit 12) rfl)) (fun x7 x8 x9 x10 => x10 (nbq (nat_lit 256) (nat_lit 13) rfl)) (fun x7 x8 => x8 (nbq (nat_lit 256) (nat_lit 14) rfl)) (fun x7 x8 => x8 (nbq (nat_lit 256) (nat_lit 15) rfl)) (fun x7 x8 x9 => x9 (nbq (nat_lit 256) (nat_lit 16) rfl)) x6 (fun _ => ARes.fail))
noncomputable def FwAppend_10 : (AProg → ((List (PTree AObj)) → (Heap → (AVal → (AVal → (Go.TypeId → (Go.TypeId → ARes))))))) :=
  (fun x0 x1 x2 x3 x4 x5 x6 => @Option.rec.{1, 0} _ (fun x7 => (((Nat.hasNotBit (nat_lit 2) (@Option.ctorIdx Go.TypeDesc x7)) → ARes) → ARes)) (fun x7 => x7 (nbq (nat_lit 2) (nat_lit 0) rfl)) (fun x7 _ => FwAppend_9 x0 x1 x2 x3 x4 x6 x7) (Fund x0 x5) (fun _ => ARes.fail))
noncomputable def FwAppend_11 : (AProg → ((List (PTree AObj)) → (Heap → (AVal → (AVal → (Go.TypeId → ((List Go.TypeId) → ARes))))))) :=
  (fun x0 x1 x2 x3 x4 x5 x6 => @List.rec.{1, 0} _ (fun x7 => (((Nat.hasNotBit (nat_lit 2) (@List.ctorIdx Go.TypeId x7)) → ARes) → ARes)) (fun x7 => x7 (nbq (nat_lit 2) (nat_lit 0) rfl)) (fun x7 x8 _ _ => FwAppend_10 x0 x1 x2 x3 x4 x5 x7) x6 (fun _ => ARes.fail))
noncomputable def FwAppend : (AProg → ((List (PTree AObj)) → (Heap → ((List Go.TypeId) → (AVal → (AVal → ARes)))))) :=
  (fun x0 x1 x2 x3 x4 x5 => @List.rec.{1, 0} _ (fun x6 => (((Nat.hasNotBit (nat_lit 2) (@List.ctorIdx Go.TypeId x6)) → ARes) → ARes)) (fun x6 => x6 (nbq (nat_lit 2) (nat_lit 0) rfl)) (fun x6 x7 _ _ => FwAppend_11 x0 x1 x2 x4 x5 x6 x7) x3 (fun _ => ARes.fail))
theorem FwAppend_eq : @FwAppend = @Go.Abs.wAppend := by
  delta FwAppend
  delta FwAppend_11
  delta FwAppend_10
  delta FwAppend_9
  delta FwAppend_8
  delta FwAppend_7
  delta FwAppend_6
  delta FwAppend_5
  delta FwAppend_4
  delta FwAppend_3
  delta FwAppend_2
  delta FwAppend_1
  delta FwAppend_0
  rw [FappendNone_eq, FappendTo_eq, Frepl_eq, FAVal_cells_eq, Fsmall_eq, FwAppend_lenOf_eq, FallOne_eq, FwAppend_textFits_eq, FsrcCells_eq, FList_length_eq, Fund_eq, FzeroA_eq, FbytesA_eq, FsizeA_eq]; kernel_rfl
noncomputable def FwCopy_cp_0 : ((List (PTree AObj)) → (Heap → (Nat → (Pos → (Nat → (Nat → (Nat → (Nat → ((List AVal) → ARes))))))))) :=
  (fun x0 x1 x2 x3 x4 x5 x6 x7 x8 => @Option.rec.{1, 0} _ (fun _ => ARes) ARes.fail (fun x9 => @Option.rec.{1, 0} _ (fun _ => ARes) ARes.fail (fun x10 => ARes.val (AVal.int Go.IntKind.i64 (Int.ofNat (Nat.min x7 x5))) x10) (FstoreA x0 x1 x3 x4 x9)) (FtakeN AVal (Nat.mul (Nat.min x7 x5) x2) (FdropN AVal x6 x8)))
noncomputable def FwCopy_cp : ((List (PTree AObj)) → (Heap → (Nat → (Pos → (Nat → (Nat → (Pos → (Nat → (Nat → ARes))))))))) :=
  (fun x0 x1 x2 x3 x4 x5 x6 x7 x8 => @Option.rec.{1, 0} _ (fun _ => ARes) ARes.fail (fun x9 => FwCopy_cp_0 x0 x1 x2 x3 x4 x5 x7 x8 x9) (FcellsAt x0 x1 x6))
theorem FwCopy_cp_eq : @FwCopy_cp = @Go.Abs.wCopy.cp := by
  delta FwCopy_cp
  delta FwCopy_cp_0
  rw [FstoreA_eq, FtakeN_eq, FdropN_eq, FcellsAt_eq]; kernel_rfl
noncomputable def FwCopy_to : ((List (PTree AObj)) → (Heap → (Nat → (Pos → (Nat → (Nat → (AVal → ARes))))))) :=
  (fun x0 x1 x2 x3 x4 x5 x6 => @AVal.rec.{1} (fun _ => ((List (PTree AObj)) → (Heap → (Nat → (Pos → (Nat → (Nat → ARes))))))) (fun _ => PUnit) (fun _ _ _ _ _ _ _ => ARes.fail) (fun _ _ _ _ _ _ _ _ => ARes.fail) (fun _ _ _ _ _ _ _ => ARes.fail) (fun _ _ _ _ _ _ _ _ => ARes.fail) (fun _ _ _ _ _ _ => ARes.fail) (fun x7 x8 x9 _ x11 x12 x13 x14 x15 x16 => FwCopy_cp x11 x12 x13 x14 x15 x16 x7 x8 x9) (fun x7 x8 x9 _ x11 x12 x13 x14 x15 x16 => FwCopy_cp x11 x12 x13 x14 x15 x16 x7 x8 x9) (fun _ x8 _ _ _ _ => ARes.val (AVal.int Go.IntKind.i64 (Int.ofNat (nat_lit 0))) x8) (fun _ _ _ _ _ _ _ => ARes.fail) (fun _ _ _ _ _ _ => ARes.fail) (fun _ _ _ _ _ _ _ _ _ _ _ => ARes.fail) (fun _ _ _ _ _ _ _ => ARes.fail) (fun _ _ _ _ _ _ => ARes.fail) (fun _ x8 _ _ _ _ _ _ _ => ARes.fail) (fun _ _ _ _ _ _ => ARes.fail) (fun _ _ _ _ _ _ _ _ => ARes.fail) (fun _ _ _ _ _ _ _ _ => ARes.fail) PUnit.unit (fun x7 _ _ _ => PUnit.unit) x6 x0 x1 x2 x3 x4 x5)
theorem FwCopy_to_eq : @FwCopy_to = @Go.Abs.wCopy.to := by
  delta FwCopy_to
  rw [FwCopy_cp_eq]; funext p0 p1 p2 p3 p4 p5 p6; cases p6 <;> kernel_rfl
noncomputable def FwCopy_0 : ((List (PTree AObj)) → (Heap → (AVal → (AVal → (Nat → ARes))))) :=
  (fun x0 x1 x2 x3 x4 => @AVal.rec.{1} (fun x5 => (((Nat.hasNotBit (nat_lit 96) (AVal.ctorIdx x5)) → ARes) → ARes)) (fun _ => PUnit) (fun x5 x6 => x6 (nbq (nat_lit 96) (nat_lit 0) rfl)) (fun x5 x6 x7 => x7 (nbq (nat_lit 96) (nat_lit 1) rfl)) (fun x5 x6 => x6 (nbq (nat_lit 96) (nat_lit 2) rfl)) (fun x5 x6 x7 => x7 (nbq (nat_lit 96) (nat_lit 3) rfl)) (fun x5 => x5 (nbq (nat_lit 96) (nat_lit 4) rfl)) (fun x5 x6 x7 x8 _ => FwCopy_to x0 x1 x4 x5 x6 x7 x3) (fun x5 x6 x7 x8 _ => FwCopy_to x0 x1 x4 x5 x6 x7 x3) (fun x5 => x5 (nbq (nat_lit 96) (nat_lit 7) rfl)) (fun x5 x6 => x6 (nbq (nat_lit 96) (nat_lit 8) rfl)) (fun x5 => x5 (nbq (nat_lit 96) (nat_lit 9) rfl)) (fun x5 x6 x7 _ _ x10 => x10 (nbq (nat_lit 96) (nat_lit 10) rfl)) (fun x5 x6 => x6 (nbq (nat_lit 96) (nat_lit 11) rfl)) (fun x5 => x5 (nbq (nat_lit 96) (nat_lit 12) rfl)) (fun x5 x6 _ x8 => x8 (nbq (nat_lit 96) (nat_lit 13) rfl)) (fun x5 => x5 (nbq (nat_lit 96) (nat_lit 14) rfl)) (fun x5 _ x7 => x7 (nbq (nat_lit 96) (nat_lit 15) rfl)) (fun x5 _ x7 => x7 (nbq (nat_lit 96) (nat_lit 16) rfl)) PUnit.unit (fun x5 _ _ _ => PUnit.unit) x2 (fun _ => ARes.fail))
noncomputable def FwCopy_1 : (AProg → ((List (PTree AObj)) → (Heap → (AVal → (AVal → (Go.TypeDesc → ARes)))))) :=
  (fun x0 x1 x2 x3 x4 x5 => @Go.TypeDesc.rec.{1} (fun x6 => (((Nat.hasNotBit (nat_lit 256) (Go.TypeDesc.ctorIdx x6)) → ARes) → ARes)) (fun x6 => x6 (nbq (nat_lit 256) (nat_lit 0) rfl)) (fun x6 => x6 (nbq (nat_lit 256) (nat_lit 1) rfl)) (fun x6 x7 => x7 (nbq (nat_lit 256) (nat_lit 2) rfl)) (fun x6 x7 => x7 (nbq (nat_lit 256) (nat_lit 3) rfl)) (fun x6 x7 => x7 (nbq (nat_lit 256) (nat_lit 4) rfl)) (fun x6 => x6 (nbq (nat_lit 256) (nat_lit 5) rfl)) (fun x6 => x6 (nbq (nat_lit 256) (nat_lit 6) rfl)) (fun x6 x7 => x7 (nbq (nat_lit 256) (nat_lit 7) rfl)) (fun x6 _ => @Option.rec.{1, 0} _ (fun _ => ARes) ARes.fail (fun x8 => FwCopy_0 x1 x2 x3 x4 x8) (FsizeA x0 x6)) (fun x6 x7 x8 => x8 (nbq (nat_lit 256) (nat_lit 9) rfl)) (fun x6 x7 x8 => x8 (nbq (nat_lit 256) (nat_lit 10) rfl)) (fun x6 x7 x8 => x8 (nbq (nat_lit 256) (nat_lit 11) rfl)) (fun x6 x7 => x7 (nbq (nat_lit 256) (nat_lit 12) rfl)) (fun x6 x7 x8 x9 => x9 (nbq (nat_lit 256) (nat_lit 13) rfl)) (fun x6 x7 => x7 (nbq (nat_lit 256) (nat_lit 14) rfl)) (fun x6 x7 => x7 (nbq (nat_lit 256) (nat_lit 15) rfl)) (fun x6 x7 x8 => x8 (nbq (nat_lit 256) (nat_lit 16) rfl)) x5 (fun _ => ARes.fail))
noncomputable def FwCopy_2 : (AProg → ((List (PTree AObj)) → (Heap → (AVal → (AVal → (Go.TypeId → ARes)))))) :=
  (fun x0 x1 x2 x3 x4 x5 => @Option.rec.{1, 0} _ (fun x6 => (((Nat.hasNotBit (nat_lit 2) (@Option.ctorIdx Go.TypeDesc x6)) → ARes) → ARes)) (fun x6 => x6 (nbq (nat_lit 2) (nat_lit 0) rfl)) (fun x6 _ => FwCopy_1 x0 x1 x2 x3 x4 x6) (Fund x0 x5) (fun _ => ARes.fail))
noncomputable def FwCopy : (AProg → ((List (PTree AObj)) → (Heap → ((List Go.TypeId) → (AVal → (AVal → ARes)))))) :=
  (fun x0 x1 x2 x3 x4 x5 => @List.rec.{1, 0} _ (fun x6 => (((Nat.hasNotBit (nat_lit 2) (@List.ctorIdx Go.TypeId x6)) → ARes) → ARes)) (fun x6 => x6 (nbq (nat_lit 2) (nat_lit 0) rfl)) (fun x6 x7 _ _ => FwCopy_2 x0 x1 x2 x4 x5 x6) x3 (fun _ => ARes.fail))
theorem FwCopy_eq : @FwCopy = @Go.Abs.wCopy := by
  delta FwCopy
  delta FwCopy_2
  delta FwCopy_1
  delta FwCopy_0
  rw [FwCopy_to_eq, FsizeA_eq, Fund_eq]; kernel_rfl
noncomputable def FwClear_0 : ((List (PTree AObj)) → (Heap → (AVal → (AVal → ARes)))) :=
  (fun x0 x1 x2 x3 => @AVal.rec.{1} (fun x4 => (((Nat.hasNotBit (nat_lit 224) (AVal.ctorIdx x4)) → ARes) → ARes)) (fun _ => PUnit) (fun x4 x5 => x5 (nbq (nat_lit 224) (nat_lit 0) rfl)) (fun x4 x5 x6 => x6 (nbq (nat_lit 224) (nat_lit 1) rfl)) (fun x4 x5 => x5 (nbq (nat_lit 224) (nat_lit 2) rfl)) (fun x4 x5 x6 => x6 (nbq (nat_lit 224) (nat_lit 3) rfl)) (fun x4 => x4 (nbq (nat_lit 224) (nat_lit 4) rfl)) (fun x4 x5 x6 x7 _ => @Option.rec.{1, 0} _ (fun _ => ARes) ARes.fail (fun x9 => ARes.val FundefA x9) (FstoreA x0 x1 x4 x5 (Frepl AVal x6 (FAVal_cells x3)))) (fun x4 x5 x6 x7 _ => @Option.rec.{1, 0} _ (fun _ => ARes) ARes.fail (fun x9 => ARes.val FundefA x9) (FstoreA x0 x1 x4 x5 (Frepl AVal x6 (FAVal_cells x3)))) (fun _ => ARes.val FundefA x1) (fun x4 x5 => x5 (nbq (nat_lit 224) (nat_lit 8) rfl)) (fun x4 => x4 (nbq (nat_lit 224) (nat_lit 9) rfl)) (fun x4 x5 x6 _ _ x9 => x9 (nbq (nat_lit 224) (nat_lit 10) rfl)) (fun x4 x5 => x5 (nbq (nat_lit 224) (nat_lit 11) rfl)) (fun x4 => x4 (nbq (nat_lit 224) (nat_lit 12) rfl)) (fun x4 x5 _ x7 => x7 (nbq (nat_lit 224) (nat_lit 13) rfl)) (fun x4 => x4 (nbq (nat_lit 224) (nat_lit 14) rfl)) (fun x4 _ x6 => x6 (nbq (nat_lit 224) (nat_lit 15) rfl)) (fun x4 _ x6 => x6 (nbq (nat_lit 224) (nat_lit 16) rfl)) PUnit.unit (fun x4 _ _ _ => PUnit.unit) x2 (fun _ => ARes.fail))
noncomputable def FwClear_1 : (AProg → ((List (PTree AObj)) → (Heap → (AVal → (Go.TypeDesc → ARes))))) :=
  (fun x0 x1 x2 x3 x4 => @Go.TypeDesc.rec.{1} (fun x5 => (((Nat.hasNotBit (nat_lit 256) (Go.TypeDesc.ctorIdx x5)) → ARes) → ARes)) (fun x5 => x5 (nbq (nat_lit 256) (nat_lit 0) rfl)) (fun x5 => x5 (nbq (nat_lit 256) (nat_lit 1) rfl)) (fun x5 x6 => x6 (nbq (nat_lit 256) (nat_lit 2) rfl)) (fun x5 x6 => x6 (nbq (nat_lit 256) (nat_lit 3) rfl)) (fun x5 x6 => x6 (nbq (nat_lit 256) (nat_lit 4) rfl)) (fun x5 => x5 (nbq (nat_lit 256) (nat_lit 5) rfl)) (fun x5 => x5 (nbq (nat_lit 256) (nat_lit 6) rfl)) (fun x5 x6 => x6 (nbq (nat_lit 256) (nat_lit 7) rfl)) (fun x5 _ => @Option.rec.{1, 0} _ (fun _ => ARes) ARes.fail (fun x7 => FwClear_0 x1 x2 x3 x7) (FzeroA x0 x5)) (fun x5 x6 x7 => x7 (nbq (nat_lit 256) (nat_lit 9) rfl)) (fun x5 x6 x7 => x7 (nbq (nat_lit 256) (nat_lit 10) rfl)) (fun x5 x6 x7 => x7 (nbq (nat_lit 256) (nat_lit 11) rfl)) (fun x5 x6 => x6 (nbq (nat_lit 256) (nat_lit 12) rfl)) (fun x5 x6 x7 x8 => x8 (nbq (nat_lit 256) (nat_lit 13) rfl)) (fun x5 x6 => x6 (nbq (nat_lit 256) (nat_lit 14) rfl)) (fun x5 x6 => x6 (nbq (nat_lit 256) (nat_lit 15) rfl)) (fun x5 x6 x7 => x7 (nbq (nat_lit 256) (nat_lit 16) rfl)) x4 (fun _ => ARes.fail))
noncomputable def FwClear_2 : (AProg → ((List (PTree AObj)) → (Heap → (AVal → (Go.TypeId → ARes))))) :=
  (fun x0 x1 x2 x3 x4 => @Option.rec.{1, 0} _ (fun x5 => (((Nat.hasNotBit (nat_lit 2) (@Option.ctorIdx Go.TypeDesc x5)) → ARes) → ARes)) (fun x5 => x5 (nbq (nat_lit 2) (nat_lit 0) rfl)) (fun x5 _ => FwClear_1 x0 x1 x2 x3 x5) (Fund x0 x4) (fun _ => ARes.fail))
noncomputable def FwClear : (AProg → ((List (PTree AObj)) → (Heap → ((List Go.TypeId) → (AVal → ARes))))) :=
  (fun x0 x1 x2 x3 x4 => @List.rec.{1, 0} _ (fun x5 => (((Nat.hasNotBit (nat_lit 2) (@List.ctorIdx Go.TypeId x5)) → ARes) → ARes)) (fun x5 => x5 (nbq (nat_lit 2) (nat_lit 0) rfl)) (fun x5 x6 _ _ => FwClear_2 x0 x1 x2 x4 x5) x3 (fun _ => ARes.fail))
theorem FwClear_eq : @FwClear = @Go.Abs.wClear := by
  delta FwClear
  delta FwClear_2
  delta FwClear_1
  delta FwClear_0
  rw [FundefA_eq, FstoreA_eq, Frepl_eq, FAVal_cells_eq, FzeroA_eq, Fund_eq]; kernel_rfl
noncomputable def FdelNth : ((x0 : Type) → (Nat → ((List x0) → (List x0)))) :=
  (fun x0 x1 => @Nat.rec.{1} (fun _ => ((List x0) → (List x0))) (fun x2 => @List.rec.{1, 0} x0 (fun _ => List x0) (@List.nil x0) (fun _ x4 _ => x4) x2) (fun _ x3 x4 => @List.rec.{1, 0} x0 (fun _ => List x0) (@List.nil x0) (fun x5 x6 _ => @List.cons x0 x5 (x3 x6)) x4) x1)
theorem FdelNth_eq : @FdelNth = @Go.Abs.delNth := by
  funext p0 p1
  refine @Nat.rec  (fun x => @FdelNth p0 x = @Go.Abs.delNth p0 x) ?_ ?_ p1
  · skip
    refine Eq.trans (show (@FdelNth p0 (@Nat.zero )) = (fun x0 => @List.rec.{1, 0} p0 (fun _ => List p0) (@List.nil p0) (fun _ x2 _ => x2) x0) by kernel_rfl) ?_
    kernel_rfl
  · intro f0 h0
    refine Eq.trans (show (@FdelNth p0 (@Nat.succ f0)) = (fun x0 => @List.rec.{1, 0} p0 (fun _ => List p0) (@List.nil p0) (fun x1 x2 _ => @List.cons p0 x1 ((@FdelNth p0 f0) x2)) x0) by kernel_rfl) ?_
    generalize (@FdelNth p0 f0) = r0 at h0 ⊢
    subst h0
    kernel_rfl
noncomputable def FdeleteA_0 : (Heap → (Pos → ((List AEntry) → (Nat → ((Option (Prod Nat AEntry)) → (Option Heap)))))) :=
  (fun x0 x1 x2 x3 x4 => @Option.rec.{1, 0} _ (fun _ => Option Heap) (@Option.some _ x0) (fun x5 => @Prod.rec.{1, 0, 0} _ _ (fun _ => Option Heap) (fun x6 _ => @Option.some _ (FHeap_set x0 x1 (AObj.map (FdelNth AEntry x6 x2) x3))) x5) x4)
noncomputable def FdeleteA_1 : (AProg → ((List (PTree AObj)) → (Heap → (AVal → (Go.TypeId → (Pos → ((Prod (List AEntry) Nat) → (Option Heap)))))))) :=
  (fun x0 x1 x2 x3 x4 x5 x6 => @Prod.rec.{1, 0, 0} _ _ (fun _ => Option Heap) (fun x7 x8 => @Option.rec.{1, 0} _ (fun _ => Option Heap) (@Option.none _) (fun x9 => FdeleteA_0 x2 x5 x7 x8 x9) (FfindA x0 x1 x2 x4 x3 x7 (nat_lit 0))) x6)
noncomputable def FdeleteA_2 : (AProg → ((List (PTree AObj)) → (Heap → (AVal → (Go.TypeId → (Pos → (Option Heap))))))) :=
  (fun x0 x1 x2 x3 x4 x5 => @Bool.rec.{1} (fun _ => Option Heap) (@Option.none _) (@Option.rec.{1, 0} _ (fun _ => Option Heap) (@Option.none _) (fun x6 => FdeleteA_1 x0 x1 x2 x3 x4 x5 x6) (FmapAt x1 x2 x5)) (FkeyFine x0 (nat_lit 40) x4 x3))
noncomputable def FdeleteA_3 : (AProg → ((List (PTree AObj)) → (Heap → (AVal → (AVal → (Go.TypeId → (Option Heap))))))) :=
  (fun x0 x1 x2 x3 x4 x5 => @AVal.rec.{1} (fun x6 => (((Nat.hasNotBit (nat_lit 256) (AVal.ctorIdx x6)) → (Option Heap)) → (Option Heap))) (fun _ => PUnit) (fun x6 x7 => x7 (nbq (nat_lit 256) (nat_lit 0) rfl)) (fun x6 x7 x8 => x8 (nbq (nat_lit 256) (nat_lit 1) rfl)) (fun x6 x7 => x7 (nbq (nat_lit 256) (nat_lit 2) rfl)) (fun x6 x7 x8 => x8 (nbq (nat_lit 256) (nat_lit 3) rfl)) (fun x6 => x6 (nbq (nat_lit 256) (nat_lit 4) rfl)) (fun x6 x7 x8 x9 x10 => x10 (nbq (nat_lit 256) (nat_lit 5) rfl)) (fun x6 x7 x8 x9 x10 => x10 (nbq (nat_lit 256) (nat_lit 6) rfl)) (fun x6 => x6 (nbq (nat_lit 256) (nat_lit 7) rfl)) (fun x6 _ => FdeleteA_2 x0 x1 x2 x4 x5 x6) (fun x6 => x6 (nbq (nat_lit 256) (nat_lit 9) rfl)) (fun x6 x7 x8 _ _ x11 => x11 (nbq (nat_lit 256) (nat_lit 10) rfl)) (fun x6 x7 => x7 (nbq (nat_lit 256) (nat_lit 11) rfl)) (fun x6 => x6 (nbq (nat_lit 256) (nat_lit 12) rfl)) (fun x6 x7 _ x9 => x9 (nbq (nat_lit 256) (nat_lit 13) rfl)) (fun x6 => x6 (nbq (nat_lit 256) (nat_lit 14) rfl)) (fun x6 _ x8 => x8 (nbq (nat_lit 256) (nat_lit 15) rfl)) (fun x6 _ x8 => x8 (nbq (nat_lit 256) (nat_lit 16) rfl)) PUnit.unit (fun x6 _ _ _ => PUnit.unit) x3 (fun _ => @Option.none _))
noncomputable def FdeleteA : (AProg → ((List (PTree AObj)) → (Heap → (Go.TypeId → (AVal → (AVal → (Option Heap))))))) :=
  (fun x0 x1 x2 x3 x4 x5 => @Option.rec.{1, 0} _ (fun x6 => (((Nat.hasNotBit (nat_lit 2) (@Option.ctorIdx (Prod Go.TypeId Go.TypeId) x6)) → (Option Heap)) → (Option Heap))) (fun x6 => x6 (nbq (nat_lit 2) (nat_lit 0) rfl)) (fun x6 _ => @Prod.rec.{1, 0, 0} _ _ (fun _ => Option Heap) (fun x8 _ => FdeleteA_3 x0 x1 x2 x4 x5 x8) x6) (FkeyType x0 x3) (fun _ => @Option.none _))
theorem FdeleteA_eq : @FdeleteA = @Go.Abs.deleteA := by
  delta FdeleteA
  delta FdeleteA_3
  delta FdeleteA_2
  delta FdeleteA_1
  delta FdeleteA_0
  rw [FHeap_set_eq, FdelNth_eq, FfindA_eq, FmapAt_eq, FkeyFine_eq, FkeyType_eq]; kernel_rfl
noncomputable def FwBuiltin_0 : (AProg → ((List (PTree AObj)) → (Heap → ((List Go.TypeId) → (AVal → (AVal → ((List AVal) → ARes))))))) :=
  (fun x0 x1 x2 x3 x4 x5 x6 => @List.rec.{1, 0} _ (fun x7 => (((Nat.hasNotBit (nat_lit 1) (@List.ctorIdx AVal x7)) → ARes) → ARes)) (fun _ => FwAppend x0 x1 x2 x3 x4 x5) (fun x7 x8 _ x10 => x10 (nbq (nat_lit 1) (nat_lit 1) rfl)) x6 (fun _ => ARes.fail))
noncomputable def FwBuiltin_1 : (AProg → ((List (PTree AObj)) → (Heap → ((List Go.TypeId) → (AVal → ((List AVal) → ARes)))))) :=
  (fun x0 x1 x2 x3 x4 x5 => @List.rec.{1, 0} _ (fun x6 => (((Nat.hasNotBit (nat_lit 2) (@List.ctorIdx AVal x6)) → ARes) → ARes)) (fun x6 => x6 (nbq (nat_lit 2) (nat_lit 0) rfl)) (fun x6 x7 _ _ => FwBuiltin_0 x0 x1 x2 x3 x4 x6 x7) x5 (fun _ => ARes.fail))
noncomputable def FwBuiltin_2 : (AProg → ((List (PTree AObj)) → (Heap → ((List Go.TypeId) → ((List AVal) → ARes))))) :=
  (fun x0 x1 x2 x3 x4 => @List.rec.{1, 0} _ (fun x5 => (((Nat.hasNotBit (nat_lit 2) (@List.ctorIdx AVal x5)) → ARes) → ARes)) (fun x5 => x5 (nbq (nat_lit 2) (nat_lit 0) rfl)) (fun x5 x6 _ _ => FwBuiltin_1 x0 x1 x2 x3 x5 x6) x4 (fun _ => ARes.fail))
noncomputable def FwBuiltin_3 : (AProg → ((List (PTree AObj)) → (Env → (Heap → ((List Go.TypeId) → ((List Go.Operand) → ARes)))))) :=
  (fun x0 x1 x2 x3 x4 x5 => @Option.rec.{1, 0} _ (fun x6 => (((Nat.hasNotBit (nat_lit 2) (@Option.ctorIdx (List AVal) x6)) → ARes) → ARes)) (fun x6 => x6 (nbq (nat_lit 2) (nat_lit 0) rfl)) (fun x6 _ => FwBuiltin_2 x0 x1 x3 x4 x6) (FevalAll x2 x5) (fun _ => ARes.fail))
noncomputable def FwBuiltin_4 : (AProg → ((List (PTree AObj)) → (Heap → ((List Go.TypeId) → ((List AVal) → ARes))))) :=
  (fun x0 x1 x2 x3 x4 => @List.rec.{1, 0} _ (fun x5 => (((Nat.hasNotBit (nat_lit 2) (@List.ctorIdx AVal x5)) → ARes) → ARes)) (fun x5 => x5 (nbq (nat_lit 2) (nat_lit 0) rfl)) (fun x5 x6 _ _ => @List.rec.{1, 0} _ (fun x9 => (((Nat.hasNotBit (nat_lit 1) (@List.ctorIdx AVal x9)) → ARes) → ARes)) (fun _ => FwClear x0 x1 x2 x3 x5) (fun x9 x10 _ x12 => x12 (nbq (nat_lit 1) (nat_lit 1) rfl)) x6 (fun _ => ARes.fail)) x4 (fun _ => ARes.fail))
noncomputable def FwBuiltin_5 : (AProg → ((List (PTree AObj)) → (Env → (Heap → ((List Go.TypeId) → ((List Go.Operand) → ARes)))))) :=
  (fun x0 x1 x2 x3 x4 x5 => @Option.rec.{1, 0} _ (fun x6 => (((Nat.hasNotBit (nat_lit 2) (@Option.ctorIdx (List AVal) x6)) → ARes) → ARes)) (fun x6 => x6 (nbq (nat_lit 2) (nat_lit 0) rfl)) (fun x6 _ => FwBuiltin_4 x0 x1 x3 x4 x6) (FevalAll x2 x5) (fun _ => ARes.fail))
noncomputable def FwBuiltin_6 : (AProg → ((List (PTree AObj)) → (Heap → ((List Go.TypeId) → (AVal → (AVal → ((List AVal) → ARes))))))) :=
  (fun x0 x1 x2 x3 x4 x5 x6 => @List.rec.{1, 0} _ (fun x7 => (((Nat.hasNotBit (nat_lit 1) (@List.ctorIdx AVal x7)) → ARes) → ARes)) (fun _ => FwCopy x0 x1 x2 x3 x4 x5) (fun x7 x8 _ x10 => x10 (nbq (nat_lit 1) (nat_lit 1) rfl)) x6 (fun _ => ARes.fail))
noncomputable def FwBuiltin_7 : (AProg → ((List (PTree AObj)) → (Heap → ((List Go.TypeId) → (AVal → ((List AVal) → ARes)))))) :=
  (fun x0 x1 x2 x3 x4 x5 => @List.rec.{1, 0} _ (fun x6 => (((Nat.hasNotBit (nat_lit 2) (@List.ctorIdx AVal x6)) → ARes) → ARes)) (fun x6 => x6 (nbq (nat_lit 2) (nat_lit 0) rfl)) (fun x6 x7 _ _ => FwBuiltin_6 x0 x1 x2 x3 x4 x6 x7) x5 (fun _ => ARes.fail))
noncomputable def FwBuiltin_8 : (AProg → ((List (PTree AObj)) → (Heap → ((List Go.TypeId) → ((List AVal) → ARes))))) :=
  (fun x0 x1 x2 x3 x4 => @List.rec.{1, 0} _ (fun x5 => (((Nat.hasNotBit (nat_lit 2) (@List.ctorIdx AVal x5)) → ARes) → ARes)) (fun x5 => x5 (nbq (nat_lit 2) (nat_lit 0) rfl)) (fun x5 x6 _ _ => FwBuiltin_7 x0 x1 x2 x3 x5 x6) x4 (fun _ => ARes.fail))
noncomputable def FwBuiltin_9 : (AProg → ((List (PTree AObj)) → (Env → (Heap → ((List Go.TypeId) → ((List Go.Operand) → ARes)))))) :=
  (fun x0 x1 x2 x3 x4 x5 => @Option.rec.{1, 0} _ (fun x6 => (((Nat.hasNotBit (nat_lit 2) (@Option.ctorIdx (List AVal) x6)) → ARes) → ARes)) (fun x6 => x6 (nbq (nat_lit 2) (nat_lit 0) rfl)) (fun x6 _ => FwBuiltin_8 x0 x1 x3 x4 x6) (FevalAll x2 x5) (fun _ => ARes.fail))
noncomputable def FwBuiltin_10 : (AProg → ((List (PTree AObj)) → (Heap → ((List Go.TypeId) → (AVal → (AVal → ARes)))))) :=
  (fun x0 x1 x2 x3 x4 x5 => @List.rec.{1, 0} _ (fun x6 => (((Nat.hasNotBit (nat_lit 2) (@List.ctorIdx Go.TypeId x6)) → ARes) → ARes)) (fun x6 => x6 (nbq (nat_lit 2) (nat_lit 0) rfl)) (fun x6 x7 _ _ => @Option.rec.{1, 0} _ (fun _ => ARes) ARes.fail (fun x10 => ARes.val FundefA x10) (FdeleteA x0 x1 x2 x6 x4 x5)) x3 (fun _ => ARes.fail))
noncomputable def FwBuiltin_11 : (AProg → ((List (PTree AObj)) → (Heap → ((List Go.TypeId) → (AVal → (AVal → ((List AVal) → ARes))))))) :=
  (fun x0 x1 x2 x3 x4 x5 x6 => @List.rec.{1, 0} _ (fun x7 => (((Nat.hasNotBit (nat_lit 1) (@List.ctorIdx AVal x7)) → ARes) → ARes)) (fun _ => FwBuiltin_10 x0 x1 x2 x3 x4 x5) (fun x7 x8 _ x10 => x10 (nbq (nat_lit 1) (nat_lit 1) rfl)) x6 (fun _ => ARes.fail))
noncomputable def FwBuiltin_12 : (AProg → ((List (PTree AObj)) → (Heap → ((List Go.TypeId) → (AVal → ((List AVal) → ARes)))))) :=
  (fun x0 x1 x2 x3 x4 x5 => @List.rec.{1, 0} _ (fun x6 => (((Nat.hasNotBit (nat_lit 2) (@List.ctorIdx AVal x6)) → ARes) → ARes)) (fun x6 => x6 (nbq (nat_lit 2) (nat_lit 0) rfl)) (fun x6 x7 _ _ => FwBuiltin_11 x0 x1 x2 x3 x4 x6 x7) x5 (fun _ => ARes.fail))
noncomputable def FwBuiltin_13 : (AProg → ((List (PTree AObj)) → (Heap → ((List Go.TypeId) → ((List AVal) → ARes))))) :=
  (fun x0 x1 x2 x3 x4 => @List.rec.{1, 0} _ (fun x5 => (((Nat.hasNotBit (nat_lit 2) (@List.ctorIdx AVal x5)) → ARes) → ARes)) (fun x5 => x5 (nbq (nat_lit 2) (nat_lit 0) rfl)) (fun x5 x6 _ _ => FwBuiltin_12 x0 x1 x2 x3 x5 x6) x4 (fun _ => ARes.fail))
noncomputable def FwBuiltin_14 : (AProg → ((List (PTree AObj)) → (Env → (Heap → ((List Go.TypeId) → ((List Go.Operand) → ARes)))))) :=
  (fun x0 x1 x2 x3 x4 x5 => @Option.rec.{1, 0} _ (fun x6 => (((Nat.hasNotBit (nat_lit 2) (@Option.ctorIdx (List AVal) x6)) → ARes) → ARes)) (fun x6 => x6 (nbq (nat_lit 2) (nat_lit 0) rfl)) (fun x6 _ => FwBuiltin_13 x0 x1 x3 x4 x6) (FevalAll x2 x5) (fun _ => ARes.fail))
noncomputable def FwBuiltin : (AProg → ((List (PTree AObj)) → (Env → (Heap → (Go.Builtin → ((List Go.TypeId) → ((List Go.Operand) → ARes))))))) :=
  (fun x0 x1 x2 x3 x4 x5 x6 => @Go.Builtin.rec.{1} (fun _ => (AProg → ((List (PTree AObj)) → (Env → (Heap → ((List Go.TypeId) → ((List Go.Operand) → ARes))))))) (fun x7 x8 x9 x10 x11 x12 => FwBuiltin_3 x7 x8 x9 x10 x11 x12) (fun _ _ _ _ _ _ => ARes.fail) (fun x7 x8 x9 x10 x11 x12 => FwBuiltin_5 x7 x8 x9 x10 x11 x12) (fun _ _ _ _ _ _ => ARes.fail) (fun _ _ _ _ _ _ => ARes.fail) (fun x7 x8 x9 x10 x11 x12 => FwBuiltin_9 x7 x8 x9 x10 x11 x12) (fun x7 x8 x9 x10 x11 x12 => FwBuiltin_14 x7 x8 x9 x10 x11 x12) (fun _ _ _ _ _ _ => ARes.fail) (fun _ _ _ _ _ _ => ARes.fail) (fun _ _ _ _ _ _ => ARes.fail) (fun _ _ _ _ _ _ => ARes.fail) (fun _ _ _ _ _ _ => ARes.fail) (fun _ _ _ _ _ _ => ARes.fail) (fun _ _ _ _ _ _ => ARes.fail) (fun _ _ _ _ _ _ => ARes.fail) (fun _ _ _ _ _ _ => ARes.fail) (fun _ _ _ _ _ _ => ARes.fail) (fun _ _ _ _ _ _ => ARes.recover) (fun _ _ _ _ _ _ => ARes.fail) (fun _ _ _ _ _ _ => ARes.fail) (fun _ _ _ _ _ _ => ARes.fail) (fun _ _ _ _ _ _ => ARes.fail) (fun _ _ _ _ _ _ => ARes.fail) (fun _ _ _ _ _ _ => ARes.fail) (fun _ _ _ _ _ _ => ARes.fail) (fun _ _ _ _ _ _ => ARes.fail) x4 x0 x1 x2 x3 x5 x6)
theorem FwBuiltin_eq : @FwBuiltin = @Go.Abs.wBuiltin := by
  delta FwBuiltin
  delta FwBuiltin_14
  delta FwBuiltin_13
  delta FwBuiltin_12
  delta FwBuiltin_11
  delta FwBuiltin_10
  delta FwBuiltin_9
  delta FwBuiltin_8
  delta FwBuiltin_7
  delta FwBuiltin_6
  delta FwBuiltin_5
  delta FwBuiltin_4
  delta FwBuiltin_3
  delta FwBuiltin_2
  delta FwBuiltin_1
  delta FwBuiltin_0
  rw [FwAppend_eq, FevalAll_eq, FwClear_eq, FwCopy_eq, FundefA_eq, FdeleteA_eq]; funext p0 p1 p2 p3 p4 p5 p6; cases p4 <;> kernel_rfl
noncomputable def FisClone : (AProg → (Go.Operand → Bool)) :=
  (fun x0 x1 => @Go.Operand.rec.{1} (fun _ => (AProg → Bool)) (fun _ _ => Bool.false) (fun _ _ => Bool.false) (fun _ _ => Bool.false) (fun x2 x3 => @Option.rec.{1, 0} _ (fun _ => Bool) Bool.false (fun _ => Bool.true) (FPTree_get Unit (FposOf x2) (AProg.clones x3))) x1 x0)
theorem FisClone_eq : @FisClone = @Go.Abs.isClone := by
  delta FisClone
  rw [FPTree_get_eq, FposOf_eq]; funext p0 p1; cases p1 <;> kernel_rfl
noncomputable def FcloneA_0 : ((List (PTree AObj)) → (Heap → (Nat → (Pos → ARes)))) :=
  (fun x0 x1 x2 x3 => @Option.rec.{1, 0} _ (fun _ => ARes) ARes.fail (fun x4 => @Prod.rec.{1, 0, 0} _ _ (fun _ => ARes) (fun x5 x6 => ARes.val (AVal.iface x2 (AVal.map (Heap.next x1))) (FHeap_new x1 (AObj.map x5 x6))) x4) (FmapAt x0 x1 x3))
noncomputable def FcloneA_1 : ((List (PTree AObj)) → (Heap → ((List AVal) → (Nat → (AVal → ARes))))) :=
  (fun x0 x1 x2 x3 x4 => @AVal.rec.{1} (fun x5 => (((Nat.hasNotBit (nat_lit 256) (AVal.ctorIdx x5)) → ARes) → ARes)) (fun _ => PUnit) (fun x5 x6 => x6 (nbq (nat_lit 256) (nat_lit 0) rfl)) (fun x5 x6 x7 => x7 (nbq (nat_lit 256) (nat_lit 1) rfl)) (fun x5 x6 => x6 (nbq (nat_lit 256) (nat_lit 2) rfl)) (fun x5 x6 x7 => x7 (nbq (nat_lit 256) (nat_lit 3) rfl)) (fun x5 => x5 (nbq (nat_lit 256) (nat_lit 4) rfl)) (fun x5 x6 x7 x8 x9 => x9 (nbq (nat_lit 256) (nat_lit 5) rfl)) (fun x5 x6 x7 x8 x9 => x9 (nbq (nat_lit 256) (nat_lit 6) rfl)) (fun x5 => x5 (nbq (nat_lit 256) (nat_lit 7) rfl)) (fun x5 _ => @List.rec.{1, 0} _ (fun x7 => (((Nat.hasNotBit (nat_lit 1) (@List.ctorIdx AVal x7)) → ARes) → ARes)) (fun _ => FcloneA_0 x0 x1 x3 x5) (fun x7 x8 _ x10 => x10 (nbq (nat_lit 1) (nat_lit 1) rfl)) x2 (fun _ => ARes.fail)) (fun x5 => x5 (nbq (nat_lit 256) (nat_lit 9) rfl)) (fun x5 x6 x7 _ _ x10 => x10 (nbq (nat_lit 256) (nat_lit 10) rfl)) (fun x5 x6 => x6 (nbq (nat_lit 256) (nat_lit 11) rfl)) (fun x5 => x5 (nbq (nat_lit 256) (nat_lit 12) rfl)) (fun x5 x6 _ x8 => x8 (nbq (nat_lit 256) (nat_lit 13) rfl)) (fun x5 => x5 (nbq (nat_lit 256) (nat_lit 14) rfl)) (fun x5 _ x7 => x7 (nbq (nat_lit 256) (nat_lit 15) rfl)) (fun x5 _ x7 => x7 (nbq (nat_lit 256) (nat_lit 16) rfl)) PUnit.unit (fun x5 _ _ _ => PUnit.unit) x4 (fun _ => ARes.fail))
noncomputable def FcloneA_2 : ((List (PTree AObj)) → (Heap → (AVal → ((List AVal) → ARes)))) :=
  (fun x0 x1 x2 x3 => @AVal.rec.{1} (fun x4 => (((Nat.hasNotBit (nat_lit 8192) (AVal.ctorIdx x4)) → ARes) → ARes)) (fun _ => PUnit) (fun x4 x5 => x5 (nbq (nat_lit 8192) (nat_lit 0) rfl)) (fun x4 x5 x6 => x6 (nbq (nat_lit 8192) (nat_lit 1) rfl)) (fun x4 x5 => x5 (nbq (nat_lit 8192) (nat_lit 2) rfl)) (fun x4 x5 x6 => x6 (nbq (nat_lit 8192) (nat_lit 3) rfl)) (fun x4 => x4 (nbq (nat_lit 8192) (nat_lit 4) rfl)) (fun x4 x5 x6 x7 x8 => x8 (nbq (nat_lit 8192) (nat_lit 5) rfl)) (fun x4 x5 x6 x7 x8 => x8 (nbq (nat_lit 8192) (nat_lit 6) rfl)) (fun x4 => x4 (nbq (nat_lit 8192) (nat_lit 7) rfl)) (fun x4 x5 => x5 (nbq (nat_lit 8192) (nat_lit 8) rfl)) (fun x4 => x4 (nbq (nat_lit 8192) (nat_lit 9) rfl)) (fun x4 x5 x6 _ _ x9 => x9 (nbq (nat_lit 8192) (nat_lit 10) rfl)) (fun x4 x5 => x5 (nbq (nat_lit 8192) (nat_lit 11) rfl)) (fun x4 => x4 (nbq (nat_lit 8192) (nat_lit 12) rfl)) (fun x4 x5 _ _ => FcloneA_1 x0 x1 x3 x4 x5) (fun x4 => x4 (nbq (nat_lit 8192) (nat_lit 14) rfl)) (fun x4 _ x6 => x6 (nbq (nat_lit 8192) (nat_lit 15) rfl)) (fun x4 _ x6 => x6 (nbq (nat_lit 8192) (nat_lit 16) rfl)) PUnit.unit (fun x4 _ _ _ => PUnit.unit) x2 (fun _ => ARes.fail))
noncomputable def FcloneA : ((List (PTree AObj)) → (Heap → ((List AVal) → ARes))) :=
  (fun x0 x1 x2 => @List.rec.{1, 0} _ (fun x3 => (((Nat.hasNotBit (nat_lit 2) (@List.ctorIdx AVal x3)) → ARes) → ARes)) (fun x3 => x3 (nbq (nat_lit 2) (nat_lit 0) rfl)) (fun x3 x4 _ _ => FcloneA_2 x0 x1 x3 x4) x2 (fun _ => ARes.fail))
theorem FcloneA_eq : @FcloneA = @Go.Abs.cloneA := by
  delta FcloneA
  delta FcloneA_2
  delta FcloneA_1
  delta FcloneA_0
  rw [FHeap_new_eq, FmapAt_eq]; kernel_rfl
noncomputable def FcallA : (AVal → ((List AVal) → ARes)) :=
  (fun x0 x1 => @AVal.rec.{1} (fun _ => ((List AVal) → ARes)) (fun _ => PUnit) (fun _ _ => ARes.fail) (fun _ _ _ => ARes.fail) (fun _ _ => ARes.fail) (fun _ _ _ => ARes.fail) (fun _ => ARes.fail) (fun _ _ _ _ _ => ARes.fail) (fun _ _ _ _ _ => ARes.fail) (fun _ => ARes.fail) (fun _ _ => ARes.fail) (fun _ => ARes.fail) (fun x2 x3 x4 _ _ x7 => ARes.enter x2 (FList_append AVal (FList_append AVal x3 x7) x4)) (fun x2 x3 => ARes.round x2 x3) (fun _ => ARes.fail) (fun _ x3 _ _ => ARes.fail) (fun _ => ARes.fail) (fun _ _ _ => ARes.fail) (fun _ _ _ => ARes.fail) PUnit.unit (fun x2 _ _ _ => PUnit.unit) x0 x1)
theorem FcallA_eq : @FcallA = @Go.Abs.callA := by
  delta FcallA
  rw [FList_append_eq]; funext p0 p1; cases p0 <;> kernel_rfl
noncomputable def FwCall_0 : (AProg → ((List (PTree AObj)) → (Env → (Heap → (Go.Call → (Go.Operand → (AVal → ARes))))))) :=
  (fun x0 x1 x2 x3 x4 x5 x6 => @Option.rec.{1, 0} _ (fun x7 => (((Nat.hasNotBit (nat_lit 2) (@Option.ctorIdx (List AVal) x7)) → ARes) → ARes)) (fun x7 => x7 (nbq (nat_lit 2) (nat_lit 0) rfl)) (fun x7 _ => @Bool.rec.{1} (fun _ => ARes) (FcallA x6 x7) (FcloneA x1 x3 x7) (FisClone x0 x5)) (FevalAll x2 (@Array.toList Go.Operand (Go.Call.args x4))) (fun _ => ARes.fail))
noncomputable def FwCall_1 : (AProg → ((List (PTree AObj)) → (Env → (Heap → (Go.Call → (Go.Operand → ARes)))))) :=
  (fun x0 x1 x2 x3 x4 x5 => @Option.rec.{1, 0} _ (fun x6 => (((Nat.hasNotBit (nat_lit 2) (@Option.ctorIdx AVal x6)) → ARes) → ARes)) (fun x6 => x6 (nbq (nat_lit 2) (nat_lit 0) rfl)) (fun x6 _ => FwCall_0 x0 x1 x2 x3 x4 x5 x6) (Faeval x2 x5) (fun _ => ARes.fail))
noncomputable def FwCall : (AProg → ((List (PTree AObj)) → (Env → (Heap → (Go.Call → ARes))))) :=
  (fun x0 x1 x2 x3 x4 => @Go.Callee.rec.{1} (fun _ => ARes) (fun x5 => FwCall_1 x0 x1 x2 x3 x4 x5) (fun _ _ => ARes.fail) (fun x5 => FwBuiltin x0 x1 x2 x3 x5 (@Array.toList Go.TypeId (Go.Call.argTypes x4)) (@Array.toList Go.Operand (Go.Call.args x4))) (Go.Call.callee x4))
theorem FwCall_eq : @FwCall = @Go.Abs.wCall := by
  delta FwCall
  delta FwCall_1
  delta FwCall_0
  rw [FcallA_eq, FcloneA_eq, FisClone_eq, FevalAll_eq, Faeval_eq, FwBuiltin_eq]; kernel_rfl
noncomputable def FwDefer_0 : (Env → (Go.Call → (Go.FuncId → ((List AVal) → ((List AVal) → ARes))))) :=
  (fun x0 x1 x2 x3 x4 => @Option.rec.{1, 0} _ (fun x5 => (((Nat.hasNotBit (nat_lit 2) (@Option.ctorIdx (List AVal) x5)) → ARes) → ARes)) (fun x5 => x5 (nbq (nat_lit 2) (nat_lit 0) rfl)) (fun x5 _ => ARes.defer (ADef.call x2 x4 (FList_append AVal x3 x5))) (FevalAll x0 (@Array.toList Go.Operand (Go.Call.args x1))) (fun _ => ARes.fail))
noncomputable def FwDefer_1 : (Env → (Go.Call → (AVal → ARes))) :=
  (fun x0 x1 x2 => @AVal.rec.{1} (fun x3 => (((Nat.hasNotBit (nat_lit 1024) (AVal.ctorIdx x3)) → ARes) → ARes)) (fun _ => PUnit) (fun x3 x4 => x4 (nbq (nat_lit 1024) (nat_lit 0) rfl)) (fun x3 x4 x5 => x5 (nbq (nat_lit 1024) (nat_lit 1) rfl)) (fun x3 x4 => x4 (nbq (nat_lit 1024) (nat_lit 2) rfl)) (fun x3 x4 x5 => x5 (nbq (nat_lit 1024) (nat_lit 3) rfl)) (fun x3 => x3 (nbq (nat_lit 1024) (nat_lit 4) rfl)) (fun x3 x4 x5 x6 x7 => x7 (nbq (nat_lit 1024) (nat_lit 5) rfl)) (fun x3 x4 x5 x6 x7 => x7 (nbq (nat_lit 1024) (nat_lit 6) rfl)) (fun x3 => x3 (nbq (nat_lit 1024) (nat_lit 7) rfl)) (fun x3 x4 => x4 (nbq (nat_lit 1024) (nat_lit 8) rfl)) (fun x3 => x3 (nbq (nat_lit 1024) (nat_lit 9) rfl)) (fun x3 x4 x5 _ _ _ => FwDefer_0 x0 x1 x3 x4 x5) (fun x3 x4 => x4 (nbq (nat_lit 1024) (nat_lit 11) rfl)) (fun x3 => x3 (nbq (nat_lit 1024) (nat_lit 12) rfl)) (fun x3 x4 _ x6 => x6 (nbq (nat_lit 1024) (nat_lit 13) rfl)) (fun x3 => x3 (nbq (nat_lit 1024) (nat_lit 14) rfl)) (fun x3 _ x5 => x5 (nbq (nat_lit 1024) (nat_lit 15) rfl)) (fun x3 _ x5 => x5 (nbq (nat_lit 1024) (nat_lit 16) rfl)) PUnit.unit (fun x3 _ _ _ => PUnit.unit) x2 (fun _ => ARes.fail))
noncomputable def FwDefer : (Env → (Go.Call → ARes)) :=
  (fun x0 x1 => @Go.Callee.rec.{1} (fun x2 => (((Nat.hasNotBit (nat_lit 1) (Go.Callee.ctorIdx x2)) → ARes) → ARes)) (fun x2 _ => @Option.rec.{1, 0} _ (fun x4 => (((Nat.hasNotBit (nat_lit 2) (@Option.ctorIdx AVal x4)) → ARes) → ARes)) (fun x4 => x4 (nbq (nat_lit 2) (nat_lit 0) rfl)) (fun x4 _ => FwDefer_1 x0 x1 x4) (Faeval x0 x2) (fun _ => ARes.fail)) (fun x2 x3 x4 => x4 (nbq (nat_lit 1) (nat_lit 1) rfl)) (fun x2 x3 => x3 (nbq (nat_lit 1) (nat_lit 2) rfl)) (Go.Call.callee x1) (fun _ => ARes.fail))
theorem FwDefer_eq : @FwDefer = @Go.Abs.wDefer := by
  delta FwDefer
  delta FwDefer_1
  delta FwDefer_0
  rw [FList_append_eq, FevalAll_eq, Faeval_eq]; kernel_rfl
noncomputable def FwPanic_0 : (AVal → ARes) :=
  (fun x0 => @AVal.rec.{1} (fun x1 => (((Nat.hasNotBit (nat_lit 8192) (AVal.ctorIdx x1)) → ARes) → ARes)) (fun _ => PUnit) (fun x1 x2 => x2 (nbq (nat_lit 8192) (nat_lit 0) rfl)) (fun x1 x2 x3 => x3 (nbq (nat_lit 8192) (nat_lit 1) rfl)) (fun x1 x2 => x2 (nbq (nat_lit 8192) (nat_lit 2) rfl)) (fun x1 x2 x3 => x3 (nbq (nat_lit 8192) (nat_lit 3) rfl)) (fun x1 => x1 (nbq (nat_lit 8192) (nat_lit 4) rfl)) (fun x1 x2 x3 x4 x5 => x5 (nbq (nat_lit 8192) (nat_lit 5) rfl)) (fun x1 x2 x3 x4 x5 => x5 (nbq (nat_lit 8192) (nat_lit 6) rfl)) (fun x1 => x1 (nbq (nat_lit 8192) (nat_lit 7) rfl)) (fun x1 x2 => x2 (nbq (nat_lit 8192) (nat_lit 8) rfl)) (fun x1 => x1 (nbq (nat_lit 8192) (nat_lit 9) rfl)) (fun x1 x2 x3 _ _ x6 => x6 (nbq (nat_lit 8192) (nat_lit 10) rfl)) (fun x1 x2 => x2 (nbq (nat_lit 8192) (nat_lit 11) rfl)) (fun x1 => x1 (nbq (nat_lit 8192) (nat_lit 12) rfl)) (fun x1 x2 _ _ => ARes.panic (AVal.iface x1 x2)) (fun x1 => x1 (nbq (nat_lit 8192) (nat_lit 14) rfl)) (fun x1 _ x3 => x3 (nbq (nat_lit 8192) (nat_lit 15) rfl)) (fun x1 _ x3 => x3 (nbq (nat_lit 8192) (nat_lit 16) rfl)) PUnit.unit (fun x1 _ _ _ => PUnit.unit) x0 (fun _ => ARes.fail))
noncomputable def FwPanic : (Env → (Go.Operand → ARes)) :=
  (fun x0 x1 => @Option.rec.{1, 0} _ (fun x2 => (((Nat.hasNotBit (nat_lit 2) (@Option.ctorIdx AVal x2)) → ARes) → ARes)) (fun x2 => x2 (nbq (nat_lit 2) (nat_lit 0) rfl)) (fun x2 _ => FwPanic_0 x2) (Faeval x0 x1) (fun _ => ARes.fail))
theorem FwPanic_eq : @FwPanic = @Go.Abs.wPanic := by
  delta FwPanic
  delta FwPanic_0
  rw [Faeval_eq]; kernel_rfl
noncomputable def Fwrites : (AProg → ((List (PTree AObj)) → (Env → (Heap → (Go.Op → ARes))))) :=
  (fun x0 x1 x2 x3 x4 => @Go.Op.rec.{1} (fun _ => (AProg → ((List (PTree AObj)) → (Env → (Heap → ARes))))) (fun _ _ _ _ _ => ARes.fail) (fun _ _ _ _ _ => ARes.fail) (fun _ _ _ _ _ _ _ => ARes.fail) (fun _ _ _ _ _ => ARes.fail) (fun _ _ _ _ _ _ => ARes.fail) (fun _ _ _ _ _ _ => ARes.fail) (fun _ _ _ _ _ _ _ => ARes.fail) (fun x5 x6 x7 x8 x9 x10 x11 x12 => FwUpdate x9 x10 x11 x12 x5 x6 x7 x8) (fun _ _ _ _ _ _ => ARes.fail) (fun x5 x6 x7 x8 x9 x10 x11 => FwStore x8 x9 x10 x11 x5 x6 x7) (fun _ _ _ _ _ => ARes.fail) (fun _ _ _ _ _ => ARes.fail) (fun _ _ _ _ _ => ARes.fail) (fun _ _ _ _ _ _ _ _ _ => ARes.fail) (fun _ _ _ _ _ _ _ => ARes.fail) (fun _ _ _ _ _ _ _ => ARes.fail) (fun _ _ _ _ _ _ => ARes.fail) (fun _ _ _ _ _ _ => ARes.fail) (fun _ _ _ _ _ _ _ => ARes.fail) (fun _ _ _ _ _ _ => ARes.fail) (fun _ _ _ _ _ _ => ARes.fail) (fun _ _ _ _ _ _ _ => ARes.fail) (fun _ _ _ _ _ _ _ _ _ => ARes.fail) (fun _ _ _ _ _ _ _ => ARes.fail) (fun _ _ _ _ _ _ _ => ARes.fail) (fun _ _ _ _ _ _ _ => ARes.fail) (fun _ _ _ _ _ _ _ => ARes.fail) (fun _ _ _ _ _ _ _ _ => ARes.fail) (fun x5 x6 x7 x8 x9 x10 x11 x12 => FwUpdate x9 x10 x11 x12 x5 x6 x7 x8) (fun _ _ _ _ _ _ _ => ARes.fail) (fun _ _ _ _ _ _ _ _ => ARes.fail) (fun x5 x6 x7 x8 x9 x10 => FwRange x7 x8 x9 x10 x5 x6) (fun x5 x6 _ x8 x9 x10 => FwNext x8 x9 x10 x5 x6) (fun _ _ _ _ _ => ARes.fail) (fun _ _ _ _ _ _ _ _ => ARes.fail) (fun _ _ _ _ _ _ => ARes.fail) (fun x5 x6 x7 x8 x9 => FwCall x6 x7 x8 x9 x5) (fun _ _ _ _ _ => ARes.fail) (fun x5 _ _ x8 _ => FwDefer x8 x5) (fun x5 _ _ x8 _ => FwPanic x8 x5) (fun _ _ _ _ _ _ => ARes.fail) (fun _ _ _ _ _ _ _ => ARes.fail) (fun _ _ _ _ _ _ => ARes.fail) x4 x0 x1 x2 x3)
theorem Fwrites_eq : @Fwrites = @Go.Abs.writes := by
  delta Fwrites
  rw [FwUpdate_eq, FwStore_eq, FwRange_eq, FwNext_eq, FwCall_eq, FwDefer_eq, FwPanic_eq]; funext p0 p1 p2 p3 p4; cases p4 <;> kernel_rfl
noncomputable def aopF : AProg → List (PTree AObj) → Env → Heap → Go.Op → ARes :=
  fun A L e h op => @Nat.rec.{1} (fun _ => ARes) (@Option.rec.{1, 0} _ (fun _ => ARes) ARes.fail (fun v => ARes.val v h) (Fquiet A L e h op)) (fun k _ => @Nat.rec.{1} (fun _ => ARes) (@Option.rec.{1, 0} _ (fun _ => ARes) ARes.fail (fun x => @Prod.rec.{1, 0, 0} _ _ (fun _ => ARes) (fun o m => ARes.val (FMk_val m h.2) (FHeap_new h o)) x) (Ffresh A e op)) (fun _ _ => Fwrites A L e h op) k) (FkindOf A op)
theorem aopF_eq : @aopF = @aop := by
  funext A L e h op
  delta aopF aop
  rw [FkindOf_eq, Fquiet_eq, Ffresh_eq, Fwrites_eq, FMk_val_eq, FHeap_new_eq]
  generalize kindOf A op = k
  cases k with
  | zero => kernel_rfl
  | succ k => cases k with
    | zero => kernel_rfl
    | succ k => kernel_rfl
noncomputable def Faops_0 : (AProg → ((List (PTree AObj)) → (Nat → (Go.Oper → ((List Go.Oper) → ((Env → (Heap → ROps)) → (Env → (Heap → ROps)))))))) :=
  (fun x0 x1 x2 x3 x4 x5 x6 x7 => @ARes.rec.{1} (fun x8 => (((Nat.hasNotBit (nat_lit 3) (ARes.ctorIdx x8)) → ROps) → ROps)) (fun _ => ROps.fail) (fun x8 x9 _ => @Option.rec.{1, 0} _ (fun _ => ROps) ROps.fail (fun x11 => x5 x11 x9) (FsetDst x2 (Go.Oper.dst x3) x8 x6)) (fun x8 x9 x10 => x10 (nbq (nat_lit 3) (nat_lit 2) rfl)) (fun x8 x9 x10 => x10 (nbq (nat_lit 3) (nat_lit 3) rfl)) (fun x8 x9 => x9 (nbq (nat_lit 3) (nat_lit 4) rfl)) (fun x8 => x8 (nbq (nat_lit 3) (nat_lit 5) rfl)) (fun x8 x9 => x9 (nbq (nat_lit 3) (nat_lit 6) rfl)) (fun x8 x9 x10 x11 x12 x13 => x13 (nbq (nat_lit 3) (nat_lit 7) rfl)) (aopF x0 x1 x6 x7 (Go.Oper.op x3)) (fun _ => ROps.stop x6 x7 (@List.cons _ x3 x4) (aopF x0 x1 x6 x7 (Go.Oper.op x3))))
noncomputable def Faops_1 : (AProg → ((List (PTree AObj)) → (Nat → (Go.Oper → ((List Go.Oper) → ((Env → (Heap → ROps)) → (Env → (Heap → (Bool → ROps))))))))) :=
  (fun x0 x1 x2 x3 x4 x5 x6 x7 x8 => @Bool.rec.{1} (fun _ => ROps) (@Option.rec.{1, 0} _ (fun _ => ROps) ROps.fail (fun x9 => x5 x9 x7) (FsetDst x2 (Go.Oper.dst x3) FundefA x6)) (Faops_0 x0 x1 x2 x3 x4 x5 x6 x7) x8)
noncomputable def Faops : (AProg → ((List (PTree AObj)) → (Nat → ((Array Go.Oper) → ((List Go.Oper) → (Env → (Heap → ROps))))))) :=
  (fun x0 x1 x2 x3 x4 => @List.rec.{1, 0} _ (fun _ => (Env → (Heap → ROps))) (fun x5 x6 => ROps.done x5 x6) (fun x5 x6 x7 x8 x9 => @Option.rec.{1, 0} _ (fun _ => ROps) ROps.fail (fun x10 => Faops_1 x0 x1 x2 x5 x6 x7 x8 x9 x10) (Fawanted (Go.Oper.guard x5) x3 x8)) x4)
theorem Faops_eq : @Faops = @Go.Abs.aops := by
  funext p0 p1 p2 p3 p4
  refine @List.rec _ (fun x => @Faops p0 p1 p2 p3 x = @Go.Abs.aops p0 p1 p2 p3 x) ?_ ?_ p4
  · skip
    refine Eq.trans (show (@Faops p0 p1 p2 p3 (@List.nil _)) = (fun x0 x1 => ROps.done x0 x1) by kernel_rfl) ?_
    kernel_rfl
  · intro f0 f1 h0
    refine Eq.trans (show (@Faops p0 p1 p2 p3 (@List.cons _ f0 f1)) = (fun x0 x1 => @Option.rec.{1, 0} _ (fun _ => ROps) ROps.fail (fun x2 => Faops_1 p0 p1 p2 f0 f1 (@Faops p0 p1 p2 p3 f1) x0 x1 x2) (Fawanted (Go.Oper.guard f0) p3 x0)) by kernel_rfl) ?_
    delta Faops_1
    delta Faops_0
    generalize (@Faops p0 p1 p2 p3 f1) = r0 at h0 ⊢
    subst h0
    rw [FsetDst_eq, FundefA_eq, aopF_eq, Fawanted_eq]
    kernel_rfl
noncomputable def FmaskOf : (AProg → (Go.FuncId → Nat)) :=
  (fun x0 x1 => @Option.rec.{1, 0} _ (fun _ => Nat) (nat_lit 0) (fun x2 => x2) (FPTree_get Nat (FposOf x1) (AProg.masks x0)))
theorem FmaskOf_eq : @FmaskOf = @Go.Abs.maskOf := by
  delta FmaskOf
  rw [FPTree_get_eq, FposOf_eq]; kernel_rfl
noncomputable def tbF : Nat → Nat → Bool := fun m n => Nat.beq (Nat.land (Nat.shiftRight m n) (nat_lit 1)) (nat_lit 1)
theorem tbF_eq : @tbF = @Nat.testBit := by
  funext m n
  exact (testBit_beq m n).symm
noncomputable def stayF : Nat → Nat → AVal → PTree AVal → PTree AVal :=
  fun msk t v tm => @Bool.rec.{1} (fun _ => PTree AVal) tm (FPTree_put AVal (FposOf t) v tm) (Nat.beq (Nat.land (Nat.shiftRight msk t) (nat_lit 1)) (nat_lit 1))
theorem stayF_eq : @stayF = @stay := by
  funext msk t v tm
  delta stayF stay
  rw [testBit_beq, FPTree_put_eq, FposOf_eq]
  cases Nat.beq (Nat.land (Nat.shiftRight msk t) 1) 1 <;> rfl
noncomputable def FsetAll : (Nat → ((List AVal) → (Nat → ((PTree AVal) → (PTree AVal))))) :=
  (fun x0 x1 => @List.rec.{1, 0} _ (fun _ => (Nat → ((PTree AVal) → (PTree AVal)))) (fun _ x3 => x3) (fun x2 _ x4 x5 x6 => x4 (Nat.succ x5) (stayF x0 x5 x2 x6)) x1)
theorem FsetAll_eq : @FsetAll = @Go.Abs.setAll := by
  funext p0 p1
  refine @List.rec _ (fun x => @FsetAll p0 x = @Go.Abs.setAll p0 x) ?_ ?_ p1
  · skip
    refine Eq.trans (show (@FsetAll p0 (@List.nil _)) = (fun _ x1 => x1) by kernel_rfl) ?_
    kernel_rfl
  · intro f0 f1 h0
    refine Eq.trans (show (@FsetAll p0 (@List.cons _ f0 f1)) = (fun x0 x1 => (@FsetAll p0 f1) (Nat.succ x0) (stayF p0 x0 f0 x1)) by kernel_rfl) ?_
    generalize (@FsetAll p0 f1) = r0 at h0 ⊢
    subst h0
    rw [stayF_eq]
    kernel_rfl
noncomputable def FenterA_0 : (AProg → (Go.FuncId → ((List AVal) → (Bool → (Go.Func → (Go.Code → (Option AFrame))))))) :=
  (fun x0 x1 x2 x3 x4 x5 => @Option.some _ (AFrame.mk (FInfo.mk x1 (FmaskOf x0 x1) (Go.Func.ntmps x4) x3 (@Option.none _)) (Env.mk (@List.nil _) (FsetAll (FmaskOf x0 x1) x2 (nat_lit 0) (@PTree.leaf _))) (@List.cons _ (AItem.code x5) (@List.nil _)) (@List.nil _) AMode.run))
noncomputable def FenterA_1 : (AProg → (Go.FuncId → ((List AVal) → (Bool → (Go.Func → (Option AFrame)))))) :=
  (fun x0 x1 x2 x3 x4 => @Option.rec.{1, 0} _ (fun _ => Option AFrame) (@Option.none _) (fun x5 => @Bool.rec.{1} (fun _ => Option AFrame) (@Option.none _) (FenterA_0 x0 x1 x2 x3 x4 x5) (Nat.ble (FList_length AVal x2) (Go.Func.ntmps x4))) (Go.Func.body x4))
noncomputable def FenterA : (AProg → (Go.FuncId → ((List AVal) → (Bool → (Option AFrame))))) :=
  (fun x0 x1 x2 x3 => @Option.rec.{1, 0} _ (fun _ => Option AFrame) (@Option.none _) (fun x4 => FenterA_1 x0 x1 x2 x3 x4) (FPTree_get Go.Func (FposOf x1) (AProg.funcs x0)))
theorem FenterA_eq : @FenterA = @Go.Abs.enterA := by
  delta FenterA
  delta FenterA_1
  delta FenterA_0
  rw [FmaskOf_eq, FsetAll_eq, FList_length_eq, FPTree_get_eq, FposOf_eq]; kernel_rfl
noncomputable def FputParams_0 : (Nat → (Go.Tmp → (((List AVal) → (Env → (Option Env))) → ((List AVal) → (Env → (Option Env)))))) :=
  (fun x0 x1 x2 x3 x4 => @List.rec.{1, 0} _ (fun _ => Option Env) (@Option.none _) (fun x5 x6 _ => @Option.rec.{1, 0} _ (fun _ => Option Env) (@Option.none _) (fun x8 => x2 x6 x8) (FsetDst x0 (@Option.some _ x1) x5 x4)) x3)
noncomputable def FputParams : (Nat → ((List Go.Tmp) → ((List AVal) → (Env → (Option Env))))) :=
  (fun x0 x1 => @List.rec.{1, 0} _ (fun _ => ((List AVal) → (Env → (Option Env)))) (fun x2 x3 => @List.rec.{1, 0} _ (fun _ => Option Env) (@Option.some _ x3) (fun _ _ _ => @Option.none _) x2) (fun x2 _ x4 x5 x6 => FputParams_0 x0 x2 x4 x5 x6) x1)
theorem FputParams_eq : @FputParams = @Go.Abs.putParams := by
  funext p0 p1
  refine @List.rec _ (fun x => @FputParams p0 x = @Go.Abs.putParams p0 x) ?_ ?_ p1
  · skip
    refine Eq.trans (show (@FputParams p0 (@List.nil _)) = (fun x0 x1 => @List.rec.{1, 0} _ (fun _ => Option Env) (@Option.some _ x1) (fun _ _ _ => @Option.none _) x0) by kernel_rfl) ?_
    kernel_rfl
  · intro f0 f1 h0
    refine Eq.trans (show (@FputParams p0 (@List.cons _ f0 f1)) = (fun x0 x1 => FputParams_0 p0 f0 (@FputParams p0 f1) x0 x1) by kernel_rfl) ?_
    delta FputParams_0
    generalize (@FputParams p0 f1) = r0 at h0 ⊢
    subst h0
    rw [FsetDst_eq]
    kernel_rfl
noncomputable def Fflush : (Nat → ((List (Prod Nat AVal)) → ((PTree AVal) → (PTree AVal)))) :=
  (fun x0 x1 => @List.rec.{1, 0} _ (fun _ => ((PTree AVal) → (PTree AVal))) (fun x2 => x2) (fun x2 _ x4 x5 => stayF x0 x2.1 x2.2 (x4 x5)) x1)
theorem Fflush_eq : @Fflush = @Go.Abs.flush := by
  funext p0 p1
  refine @List.rec _ (fun x => @Fflush p0 x = @Go.Abs.flush p0 x) ?_ ?_ p1
  · skip
    refine Eq.trans (show (@Fflush p0 (@List.nil _)) = (fun x0 => x0) by kernel_rfl) ?_
    kernel_rfl
  · intro f0 f1 h0
    refine Eq.trans (show (@Fflush p0 (@List.cons _ f0 f1)) = (fun x0 => stayF p0 f0.1 f0.2 ((@Fflush p0 f1) x0)) by kernel_rfl) ?_
    generalize (@Fflush p0 f1) = r0 at h0 ⊢
    subst h0
    rw [stayF_eq]
    kernel_rfl
noncomputable def FraiseA_0 : ((List (Prod AVal Bool)) → (FInfo → (Env → ((List AItem) → ((List ADef) → (AMode → AFrame)))))) :=
  (fun x0 x1 x2 x3 x4 x5 => @AMode.rec.{1} (fun x6 => (((Nat.hasNotBit (nat_lit 4) (AMode.ctorIdx x6)) → AFrame) → AFrame)) (fun x6 => x6 (nbq (nat_lit 4) (nat_lit 0) rfl)) (fun x6 => x6 (nbq (nat_lit 4) (nat_lit 1) rfl)) (fun x6 _ => AFrame.mk x1 x2 x3 x4 (AMode.panicking (FList_append (Prod AVal Bool) x0 x6))) x5 (fun _ => AFrame.mk x1 x2 x3 x4 (AMode.panicking x0)))
noncomputable def FraiseA : (AFrame → ((List (Prod AVal Bool)) → AFrame)) :=
  (fun x0 x1 => @AFrame.rec.{1} (fun _ => AFrame) (fun x2 x3 x4 x5 x6 => FraiseA_0 x1 x2 x3 x4 x5 x6) x0)
theorem FraiseA_eq : @FraiseA = @Go.Abs.raiseA := by
  delta FraiseA
  delta FraiseA_0
  rw [FList_append_eq]; kernel_rfl
noncomputable def Faresume_branches_0 : (AFrame → ((List AFrame) → (Heap → (Pos → (Pos → (Nat → ((List Nat) → (AEntry → ((List AState) → (List AState)))))))))) :=
  (fun x0 x1 x2 x3 x4 x5 x6 x7 x8 => @Option.rec.{1, 0} _ (fun _ => List AState) (@List.nil _) (fun x9 => @List.cons _ (AState.mk x9 x1 (FHeap_set x2 x3 (AObj.mapIter (@Option.some _ x4) x5 (@List.cons _ (AEntry.born x7) x6)))) x8) (FfinishA x0 (AVal.tuple (@List.cons _ (AVal.bool Bool.true) (@List.cons _ (AEntry.k x7) (@List.cons _ (AEntry.v x7) (@List.nil _)))))))
noncomputable def Faresume_branches : (AFrame → ((List AFrame) → (Heap → (Pos → (Pos → (Nat → ((List Nat) → ((List AEntry) → (List AState))))))))) :=
  (fun x0 x1 x2 x3 x4 x5 x6 x7 => @List.rec.{1, 0} _ (fun _ => List AState) (@List.nil _) (fun x8 _ x10 => Faresume_branches_0 x0 x1 x2 x3 x4 x5 x6 x8 x10) x7)
theorem Faresume_branches_eq : @Faresume_branches = @Go.Abs.aresume.branches := by
  funext p0 p1 p2 p3 p4 p5 p6 p7
  refine @List.rec _ (fun x => @Faresume_branches p0 p1 p2 p3 p4 p5 p6 x = @Go.Abs.aresume.branches p0 p1 p2 p3 p4 p5 p6 x) ?_ ?_ p7
  · skip
    refine Eq.trans (show (@Faresume_branches p0 p1 p2 p3 p4 p5 p6 (@List.nil _)) = (@List.nil _) by kernel_rfl) ?_
    kernel_rfl
  · intro f0 f1 h0
    refine Eq.trans (show (@Faresume_branches p0 p1 p2 p3 p4 p5 p6 (@List.cons _ f0 f1)) = (Faresume_branches_0 p0 p1 p2 p3 p4 p5 p6 f0 (@Faresume_branches p0 p1 p2 p3 p4 p5 p6 f1)) by kernel_rfl) ?_
    delta Faresume_branches_0
    generalize (@Faresume_branches p0 p1 p2 p3 p4 p5 p6 f1) = r0 at h0 ⊢
    subst h0
    rw [FHeap_set_eq, FfinishA_eq]
    kernel_rfl
noncomputable def Faresume_0 : (AProg → (AState → (AFrame → ((List AFrame) → (Heap → (Go.FuncId → ((List AVal) → AStep))))))) :=
  (fun x0 x1 x2 x3 x4 x5 x6 => @Option.rec.{1, 0} _ (fun _ => AStep) (@Option.rec.{1, 0} _ (fun _ => AStep) AStep.fail (fun x7 => AStep.next (AState.mk x7 (@List.cons _ x2 x3) x4)) (FenterA x0 x5 x6 Bool.false)) (fun _ => AStep.call x5 x6 x1) (FPTree_get Unit (FposOf x5) (AProg.apart x0)))
noncomputable def Faresume_1 : (AFrame → ((List AFrame) → (Heap → (Pos → (ALoop → (Env → AStep)))))) :=
  (fun x0 x1 x2 x3 x4 x5 => AStep.next (AState.mk (AFrame.mk (FInfo.mk (ALoop.fn x4) (ALoop.msk x4) (ALoop.nt x4) Bool.false (@Option.some _ x3)) (Env.mk (@List.nil _) (Fflush (ALoop.msk x4) (Env.rc x5) (Env.tm x5))) (@List.cons _ (AItem.code (ALoop.assign x4)) (@List.cons _ AItem.beginRound (@List.cons _ (AItem.code (ALoop.body x4)) (@List.nil _)))) (@List.nil _) AMode.run) (@List.cons _ x0 x1) x2))
noncomputable def Faresume_2 : (AFrame → ((List AFrame) → (Heap → (Pos → ((List AVal) → (AObj → AStep)))))) :=
  (fun x0 x1 x2 x3 x4 x5 => @AObj.rec.{1} (fun x6 => (((Nat.hasNotBit (nat_lit 16) (AObj.ctorIdx x6)) → AStep) → AStep)) (fun x6 x7 x8 x9 x10 => x10 (nbq (nat_lit 16) (nat_lit 0) rfl)) (fun x6 x7 x8 => x8 (nbq (nat_lit 16) (nat_lit 1) rfl)) (fun x6 x7 x8 => x8 (nbq (nat_lit 16) (nat_lit 2) rfl)) (fun x6 x7 x8 x9 => x9 (nbq (nat_lit 16) (nat_lit 3) rfl)) (fun x6 _ => @Option.rec.{1, 0} _ (fun _ => AStep) AStep.fail (fun x8 => Faresume_1 x0 x1 x2 x3 x6 x8) (FputParams (ALoop.nt x6) (ALoop.params x6) x4 (ALoop.env x6))) (fun x6 x7 => x7 (nbq (nat_lit 16) (nat_lit 5) rfl)) (fun x6 => x6 (nbq (nat_lit 16) (nat_lit 6) rfl)) x5 (fun _ => AStep.fail))
noncomputable def Faresume_3 : ((List (PTree AObj)) → (AFrame → ((List AFrame) → (Heap → (Pos → ((List AVal) → AStep)))))) :=
  (fun x0 x1 x2 x3 x4 x5 => @Option.rec.{1, 0} _ (fun x6 => (((Nat.hasNotBit (nat_lit 2) (@Option.ctorIdx AObj x6)) → AStep) → AStep)) (fun x6 => x6 (nbq (nat_lit 2) (nat_lit 0) rfl)) (fun x6 _ => Faresume_2 x1 x2 x3 x4 x5 x6) (Fhget x0 x3 x4) (fun _ => AStep.fail))
noncomputable def Faresume_4 : (AFrame → ((List AFrame) → (Heap → (ADef → AStep)))) :=
  (fun x0 x1 x2 x3 => @Option.rec.{1, 0} _ (fun _ => AStep) AStep.fail (fun x4 => AStep.next (AState.mk x4 x1 x2)) (FfinishA (AFrame.mk (AFrame.fi x0) (AFrame.env x0) (AFrame.todo x0) (@List.cons _ x3 (AFrame.defers x0)) (AFrame.mode x0)) FundefA))
noncomputable def Faresume_5 : (Heap → (AFrame → ((List AFrame) → ((List (Prod AVal Bool)) → (AVal → (AFrame → AStep)))))) :=
  (fun x0 x1 x2 x3 x4 x5 => AStep.next (AState.mk x5 (@List.cons _ (AFrame.mk (AFrame.fi x1) (AFrame.env x1) (AFrame.todo x1) (AFrame.defers x1) (AMode.panicking (@List.cons _ (@Prod.mk _ _ x4 Bool.true) x3))) x2) x0))
noncomputable def Faresume_6 : (AFrame → (Heap → (AFrame → ((List AFrame) → ((List (Prod AVal Bool)) → (AVal → (Bool → AStep))))))) :=
  (fun x0 x1 x2 x3 x4 x5 x6 => @Bool.rec.{1} (fun x7 => (((Nat.hasNotBit (nat_lit 1) (Bool.ctorIdx x7)) → AStep) → AStep)) (fun _ => @Option.rec.{1, 0} _ (fun _ => AStep) AStep.fail (fun x8 => Faresume_5 x1 x2 x3 x4 x5 x8) (FfinishA x0 x5)) (fun x7 => x7 (nbq (nat_lit 1) (nat_lit 1) rfl)) x6 (fun _ => @Option.rec.{1, 0} _ (fun _ => AStep) AStep.fail (fun x8 => AStep.next (AState.mk x8 (@List.cons _ x2 x3) x1)) (FfinishA x0 AVal.nilIface)))
noncomputable def Faresume_7 : (AFrame → (Heap → (AFrame → ((List AFrame) → ((List (Prod AVal Bool)) → AStep))))) :=
  (fun x0 x1 x2 x3 x4 => @List.rec.{1, 0} _ (fun x5 => (((Nat.hasNotBit (nat_lit 2) (@List.ctorIdx (Prod AVal Bool) x5)) → AStep) → AStep)) (fun x5 => x5 (nbq (nat_lit 2) (nat_lit 0) rfl)) (fun x5 x6 _ _ => @Prod.rec.{1, 0, 0} _ _ (fun _ => AStep) (fun x9 x10 => Faresume_6 x0 x1 x2 x3 x6 x9 x10) x5) x4 (fun _ => @Option.rec.{1, 0} _ (fun _ => AStep) AStep.fail (fun x6 => AStep.next (AState.mk x6 (@List.cons _ x2 x3) x1)) (FfinishA x0 AVal.nilIface)))
noncomputable def Faresume_8 : (AFrame → (Heap → (AFrame → ((List AFrame) → AStep)))) :=
  (fun x0 x1 x2 x3 => @AMode.rec.{1} (fun x4 => (((Nat.hasNotBit (nat_lit 4) (AMode.ctorIdx x4)) → AStep) → AStep)) (fun x4 => x4 (nbq (nat_lit 4) (nat_lit 0) rfl)) (fun x4 => x4 (nbq (nat_lit 4) (nat_lit 1) rfl)) (fun x4 _ => Faresume_7 x0 x1 x2 x3 x4) (AFrame.mode x2) (fun _ => @Option.rec.{1, 0} _ (fun _ => AStep) AStep.fail (fun x5 => AStep.next (AState.mk x5 (@List.cons _ x2 x3) x1)) (FfinishA x0 AVal.nilIface)))
noncomputable def Faresume_9 : (AFrame → ((List AFrame) → (Heap → AStep))) :=
  (fun x0 x1 x2 => @Bool.rec.{1} (fun _ => AStep) (@Option.rec.{1, 0} _ (fun _ => AStep) AStep.fail (fun x3 => AStep.next (AState.mk x3 x1 x2)) (FfinishA x0 AVal.nilIface)) (@List.rec.{1, 0} _ (fun _ => AStep) AStep.fail (fun x3 x4 _ => Faresume_8 x0 x2 x3 x4) x1) (FInfo.dk (AFrame.fi x0)))
noncomputable def Faresume_10 : (AProg → ((List (PTree AObj)) → (AState → (ARes → (AFrame → ((List AFrame) → (Heap → AStep))))))) :=
  (fun x0 x1 x2 x3 x4 x5 x6 => @ARes.rec.{1} (fun x7 => (((Nat.hasNotBit (nat_lit 252) (ARes.ctorIdx x7)) → AStep) → AStep)) (fun x7 => x7 (nbq (nat_lit 252) (nat_lit 0) rfl)) (fun x7 x8 x9 => x9 (nbq (nat_lit 252) (nat_lit 1) rfl)) (fun x7 x8 _ => Faresume_0 x0 x2 x4 x5 x6 x7 x8) (fun x7 x8 _ => Faresume_3 x1 x4 x5 x6 x7 x8) (fun x7 _ => @Option.rec.{1, 0} _ (fun _ => AStep) (Faresume_4 x4 x5 x6 x7) (fun _ => AStep.fail) (FInfo.rnd (AFrame.fi x4))) (fun _ => @Option.rec.{1, 0} _ (fun _ => AStep) (Faresume_9 x4 x5 x6) (fun _ => AStep.fail) (FInfo.rnd (AFrame.fi x4))) (fun x7 _ => AStep.next (AState.mk (FraiseA x4 (@List.cons _ (@Prod.mk _ _ x7 Bool.false) (@List.nil _))) x5 x6)) (fun x7 x8 x9 x10 x11 _ => AStep.ways (Faresume_branches x4 x5 x6 x7 x8 x9 x10 x11)) x3 (fun _ => AStep.fail))
noncomputable def Faresume : (AProg → ((List (PTree AObj)) → (AState → (ARes → AStep)))) :=
  (fun x0 x1 x2 x3 => @AState.rec.{1} (fun _ => AStep) (fun x4 x5 x6 => Faresume_10 x0 x1 x2 x3 x4 x5 x6) x2)
theorem Faresume_eq : @Faresume = @Go.Abs.aresume := by
  delta Faresume
  delta Faresume_10
  delta Faresume_9
  delta Faresume_8
  delta Faresume_7
  delta Faresume_6
  delta Faresume_5
  delta Faresume_4
  delta Faresume_3
  delta Faresume_2
  delta Faresume_1
  delta Faresume_0
  rw [FenterA_eq, FPTree_get_eq, FposOf_eq, Fflush_eq, FputParams_eq, Fhget_eq, FfinishA_eq, FundefA_eq, FraiseA_eq, Faresume_branches_eq]; kernel_rfl
noncomputable def FaexitTo_0 : (Nat → (AItem → ((List AItem) → ((Option (List AItem)) → (Option (List AItem)))))) :=
  (fun x0 x1 x2 x3 => @AItem.rec.{1} (fun x4 => (((Nat.hasNotBit (nat_lit 2) (AItem.ctorIdx x4)) → (Option (List AItem))) → (Option (List AItem)))) (fun x4 x5 => x5 (nbq (nat_lit 2) (nat_lit 0) rfl)) (fun x4 _ => @Bool.rec.{1} (fun _ => Option (List AItem)) x3 (@Option.some _ x2) (Nat.beq x4 x0)) (fun x4 x5 => x5 (nbq (nat_lit 2) (nat_lit 2) rfl)) (fun x4 x5 => x5 (nbq (nat_lit 2) (nat_lit 3) rfl)) (fun x4 x5 x6 => x6 (nbq (nat_lit 2) (nat_lit 4) rfl)) (fun x4 x5 => x5 (nbq (nat_lit 2) (nat_lit 5) rfl)) (fun x4 x5 => x5 (nbq (nat_lit 2) (nat_lit 6) rfl)) (fun x4 => x4 (nbq (nat_lit 2) (nat_lit 7) rfl)) (fun x4 => x4 (nbq (nat_lit 2) (nat_lit 8) rfl)) x1 (fun _ => x3))
noncomputable def FaexitTo : (Nat → ((List AItem) → (Option (List AItem)))) :=
  (fun x0 x1 => @List.rec.{1, 0} _ (fun _ => Option (List AItem)) (@Option.none _) (fun x2 x3 x4 => FaexitTo_0 x0 x2 x3 x4) x1)
theorem FaexitTo_eq : @FaexitTo = @Go.Abs.aexitTo := by
  funext p0 p1
  refine @List.rec _ (fun x => @FaexitTo p0 x = @Go.Abs.aexitTo p0 x) ?_ ?_ p1
  · skip
    refine Eq.trans (show (@FaexitTo p0 (@List.nil _)) = (@Option.none _) by kernel_rfl) ?_
    kernel_rfl
  · intro f0 f1 h0
    refine Eq.trans (show (@FaexitTo p0 (@List.cons _ f0 f1)) = (FaexitTo_0 p0 f0 f1 (@FaexitTo p0 f1)) by kernel_rfl) ?_
    delta FaexitTo_0
    generalize (@FaexitTo p0 f1) = r0 at h0 ⊢
    subst h0
    kernel_rfl
noncomputable def FagotoIn_0 : (Nat → (AItem → ((List AItem) → ((Option (List AItem)) → (Option (List AItem)))))) :=
  (fun x0 x1 x2 x3 => @AItem.rec.{1} (fun x4 => (((Nat.hasNotBit (nat_lit 8) (AItem.ctorIdx x4)) → (Option (List AItem))) → (Option (List AItem)))) (fun x4 x5 => x5 (nbq (nat_lit 8) (nat_lit 0) rfl)) (fun x4 x5 => x5 (nbq (nat_lit 8) (nat_lit 1) rfl)) (fun x4 x5 => x5 (nbq (nat_lit 8) (nat_lit 2) rfl)) (fun x4 _ => @Option.rec.{1, 0} _ (fun _ => Option (List AItem)) x3 (fun x6 => @Option.some _ (@List.cons _ (AItem.code x6) (@List.cons _ (AItem.inScope x4) x2))) (Go.findLabel x4 x0)) (fun x4 x5 x6 => x6 (nbq (nat_lit 8) (nat_lit 4) rfl)) (fun x4 x5 => x5 (nbq (nat_lit 8) (nat_lit 5) rfl)) (fun x4 x5 => x5 (nbq (nat_lit 8) (nat_lit 6) rfl)) (fun x4 => x4 (nbq (nat_lit 8) (nat_lit 7) rfl)) (fun x4 => x4 (nbq (nat_lit 8) (nat_lit 8) rfl)) x1 (fun _ => x3))
noncomputable def FagotoIn : (Nat → ((List AItem) → (Option (List AItem)))) :=
  (fun x0 x1 => @List.rec.{1, 0} _ (fun _ => Option (List AItem)) (@Option.none _) (fun x2 x3 x4 => FagotoIn_0 x0 x2 x3 x4) x1)
theorem FagotoIn_eq : @FagotoIn = @Go.Abs.agotoIn := by
  funext p0 p1
  refine @List.rec _ (fun x => @FagotoIn p0 x = @Go.Abs.agotoIn p0 x) ?_ ?_ p1
  · skip
    refine Eq.trans (show (@FagotoIn p0 (@List.nil _)) = (@Option.none _) by kernel_rfl) ?_
    kernel_rfl
  · intro f0 f1 h0
    refine Eq.trans (show (@FagotoIn p0 (@List.cons _ f0 f1)) = (FagotoIn_0 p0 f0 f1 (@FagotoIn p0 f1)) by kernel_rfl) ?_
    delta FagotoIn_0
    generalize (@FagotoIn p0 f1) = r0 at h0 ⊢
    subst h0
    kernel_rfl
noncomputable def Facode_0 : ((Array Go.Oper) → (FInfo → (Env → ((List ADef) → ((List AFrame) → (Heap → ((List AItem) → AStep))))))) :=
  (fun x0 x1 x2 x3 x4 x5 x6 => AStep.next (AState.mk (AFrame.mk x1 (Env.mk (@List.nil _) (Fflush (FInfo.msk x1) (Env.rc x2) (Env.tm x2))) (@List.cons _ (AItem.inRegion x0 (@Array.toList Go.Oper x0)) x6) x3 AMode.run) x4 x5))
noncomputable def Facode_1 : (Go.Code → (Go.Code → (FInfo → (Env → ((List ADef) → ((List AFrame) → (Heap → ((List AItem) → (AVal → AStep))))))))) :=
  (fun x0 x1 x2 x3 x4 x5 x6 x7 x8 => @AVal.rec.{1} (fun x9 => (((Nat.hasNotBit (nat_lit 1) (AVal.ctorIdx x9)) → AStep) → AStep)) (fun _ => PUnit) (fun x9 _ => AStep.next (AState.mk (AFrame.mk x2 x3 (@List.cons _ (AItem.code (@Bool.rec.{1} (fun _ => Go.Code) x1 x0 x9)) x7) x4 AMode.run) x5 x6)) (fun x9 x10 x11 => x11 (nbq (nat_lit 1) (nat_lit 1) rfl)) (fun x9 x10 => x10 (nbq (nat_lit 1) (nat_lit 2) rfl)) (fun x9 x10 x11 => x11 (nbq (nat_lit 1) (nat_lit 3) rfl)) (fun x9 => x9 (nbq (nat_lit 1) (nat_lit 4) rfl)) (fun x9 x10 x11 x12 x13 => x13 (nbq (nat_lit 1) (nat_lit 5) rfl)) (fun x9 x10 x11 x12 x13 => x13 (nbq (nat_lit 1) (nat_lit 6) rfl)) (fun x9 => x9 (nbq (nat_lit 1) (nat_lit 7) rfl)) (fun x9 x10 => x10 (nbq (nat_lit 1) (nat_lit 8) rfl)) (fun x9 => x9 (nbq (nat_lit 1) (nat_lit 9) rfl)) (fun x9 x10 x11 _ _ x14 => x14 (nbq (nat_lit 1) (nat_lit 10) rfl)) (fun x9 x10 => x10 (nbq (nat_lit 1) (nat_lit 11) rfl)) (fun x9 => x9 (nbq (nat_lit 1) (nat_lit 12) rfl)) (fun x9 x10 _ x12 => x12 (nbq (nat_lit 1) (nat_lit 13) rfl)) (fun x9 => x9 (nbq (nat_lit 1) (nat_lit 14) rfl)) (fun x9 _ x11 => x11 (nbq (nat_lit 1) (nat_lit 15) rfl)) (fun x9 _ x11 => x11 (nbq (nat_lit 1) (nat_lit 16) rfl)) PUnit.unit (fun x9 _ _ _ => PUnit.unit) x8 (fun _ => AStep.fail))
noncomputable def Facode_2 : (Go.Operand → (Go.Code → (Go.Code → (FInfo → (Env → ((List ADef) → ((List AFrame) → (Heap → ((List AItem) → AStep))))))))) :=
  (fun x0 x1 x2 x3 x4 x5 x6 x7 x8 => @Option.rec.{1, 0} _ (fun x9 => (((Nat.hasNotBit (nat_lit 2) (@Option.ctorIdx AVal x9)) → AStep) → AStep)) (fun x9 => x9 (nbq (nat_lit 2) (nat_lit 0) rfl)) (fun x9 _ => Facode_1 x1 x2 x3 x4 x5 x6 x7 x8 x9) (Faeval x4 x0) (fun _ => AStep.fail))
noncomputable def Facode_3 : ((Array Go.Tmp) → (Go.Code → (Go.Code → (AProg → (FInfo → (Env → ((List ADef) → ((List AFrame) → (Heap → ((List AItem) → (Go.FuncId → ((List AVal) → ((List AVal) → AStep))))))))))))) :=
  (fun x0 x1 x2 x3 x4 x5 x6 x7 x8 x9 x10 x11 x12 => (let x13 : Heap := (FHeap_new x8 (AObj.deferred (@Option.some _ (@List.nil _)))); (let x14 : Heap := (FHeap_new x13 (AObj.loop (ALoop.mk Go.LoopState.ready (@Option.none _) (FInfo.fn x4) (FInfo.msk x4) (FInfo.nt x4) x5 (@Array.toList Go.Tmp x0) x1 x2 (Heap.next x8)))); (@Option.rec.{1, 0} _ (fun _ => AStep) AStep.fail (fun x15 => AStep.next (AState.mk x15 (@List.cons _ (AFrame.mk x4 x5 (@List.cons _ (AItem.inRangeFunc (Heap.next x13)) x9) (@List.cons _ (ADef.mark (Heap.next x8)) x6) AMode.run) x7) x14)) (FenterA x3 x10 (FList_append AVal (FList_append AVal x11 (@List.cons _ (AVal.yield (Heap.next x13)) (@List.nil _))) x12) Bool.false)))))
noncomputable def Facode_4 : ((Array Go.Tmp) → (Go.Code → (Go.Code → (AProg → (FInfo → (Env → ((List ADef) → ((List AFrame) → (Heap → ((List AItem) → (AVal → AStep))))))))))) :=
  (fun x0 x1 x2 x3 x4 x5 x6 x7 x8 x9 x10 => @AVal.rec.{1} (fun x11 => (((Nat.hasNotBit (nat_lit 1024) (AVal.ctorIdx x11)) → AStep) → AStep)) (fun _ => PUnit) (fun x11 x12 => x12 (nbq (nat_lit 1024) (nat_lit 0) rfl)) (fun x11 x12 x13 => x13 (nbq (nat_lit 1024) (nat_lit 1) rfl)) (fun x11 x12 => x12 (nbq (nat_lit 1024) (nat_lit 2) rfl)) (fun x11 x12 x13 => x13 (nbq (nat_lit 1024) (nat_lit 3) rfl)) (fun x11 => x11 (nbq (nat_lit 1024) (nat_lit 4) rfl)) (fun x11 x12 x13 x14 x15 => x15 (nbq (nat_lit 1024) (nat_lit 5) rfl)) (fun x11 x12 x13 x14 x15 => x15 (nbq (nat_lit 1024) (nat_lit 6) rfl)) (fun x11 => x11 (nbq (nat_lit 1024) (nat_lit 7) rfl)) (fun x11 x12 => x12 (nbq (nat_lit 1024) (nat_lit 8) rfl)) (fun x11 => x11 (nbq (nat_lit 1024) (nat_lit 9) rfl)) (fun x11 x12 x13 _ _ _ => Facode_3 x0 x1 x2 x3 x4 x5 x6 x7 x8 x9 x11 x12 x13) (fun x11 x12 => x12 (nbq (nat_lit 1024) (nat_lit 11) rfl)) (fun x11 => x11 (nbq (nat_lit 1024) (nat_lit 12) rfl)) (fun x11 x12 _ x14 => x14 (nbq (nat_lit 1024) (nat_lit 13) rfl)) (fun x11 => x11 (nbq (nat_lit 1024) (nat_lit 14) rfl)) (fun x11 _ x13 => x13 (nbq (nat_lit 1024) (nat_lit 15) rfl)) (fun x11 _ x13 => x13 (nbq (nat_lit 1024) (nat_lit 16) rfl)) PUnit.unit (fun x11 _ _ _ => PUnit.unit) x10 (fun _ => AStep.fail))
noncomputable def Facode_5 : (Go.Operand → ((Array Go.Tmp) → (Go.Code → (Go.Code → (AProg → (FInfo → (Env → ((List ADef) → ((List AFrame) → (Heap → ((List AItem) → AStep))))))))))) :=
  (fun x0 x1 x2 x3 x4 x5 x6 x7 x8 x9 x10 => @Option.rec.{1, 0} _ (fun x11 => (((Nat.hasNotBit (nat_lit 2) (@Option.ctorIdx AVal x11)) → AStep) → AStep)) (fun x11 => x11 (nbq (nat_lit 2) (nat_lit 0) rfl)) (fun x11 _ => Facode_4 x1 x2 x3 x4 x5 x6 x7 x8 x9 x10 x11) (Faeval x6 x0) (fun _ => AStep.fail))
noncomputable def Facode_6 : (Go.Operand → ((Array Go.Tmp) → (Go.Code → (Go.Code → (AProg → (FInfo → (Env → ((List ADef) → ((List AFrame) → (Heap → ((List AItem) → AStep))))))))))) :=
  (fun x0 x1 x2 x3 x4 x5 x6 x7 x8 x9 x10 => @Option.rec.{1, 0} _ (fun x11 => (((Nat.hasNotBit (nat_lit 1) (@Option.ctorIdx Pos x11)) → AStep) → AStep)) (fun _ => Facode_5 x0 x1 x2 x3 x4 x5 x6 x7 x8 x9 x10) (fun x11 x12 => x12 (nbq (nat_lit 1) (nat_lit 1) rfl)) (FInfo.rnd x5) (fun _ => AStep.fail))
noncomputable def Facode_7 : (Nat → (AProg → ((List (PTree AObj)) → (AState → (FInfo → (Env → ((List ADef) → ((List AFrame) → (Heap → ((List AItem) → AStep)))))))))) :=
  (fun x0 x1 x2 x3 x4 x5 x6 x7 x8 x9 => @Option.rec.{1, 0} _ (fun _ => AStep) (Faleave x1 x2 x3 (@Option.some _ (Go.Code.exit x0))) (fun x10 => AStep.next (AState.mk (AFrame.mk x4 x5 x10 x6 AMode.run) x7 x8)) (FaexitTo x0 x9))
noncomputable def Facode_8 : (Nat → (AProg → ((List (PTree AObj)) → (AState → (FInfo → (Env → ((List ADef) → ((List AFrame) → (Heap → ((List AItem) → AStep)))))))))) :=
  (fun x0 x1 x2 x3 x4 x5 x6 x7 x8 x9 => @Option.rec.{1, 0} _ (fun _ => AStep) (Faleave x1 x2 x3 (@Option.some _ (Go.Code.goto x0))) (fun x10 => AStep.next (AState.mk (AFrame.mk x4 x5 x10 x6 AMode.run) x7 x8)) (FagotoIn x0 x9))
noncomputable def Facode : (AProg → ((List (PTree AObj)) → (AState → (FInfo → (Env → ((List ADef) → ((List AFrame) → (Heap → ((List AItem) → (Go.Code → AStep)))))))))) :=
  (fun x0 x1 x2 x3 x4 x5 x6 x7 x8 x9 => @Go.Code.rec.{1} (fun _ => (AProg → ((List (PTree AObj)) → (AState → (FInfo → (Env → ((List ADef) → ((List AFrame) → (Heap → ((List AItem) → AStep)))))))))) (fun _ _ _ x13 x14 x15 x16 x17 x18 => AStep.next (AState.mk (AFrame.mk x13 x14 x18 x15 AMode.run) x16 x17)) (fun x10 x11 x12 _ _ x15 x16 x17 x18 x19 x20 x21 => @Bool.rec.{1} (fun _ => AStep) (Facode_0 x11 x16 x17 x18 x19 x20 x21) (AStep.draw x10 x11 x21 x15) x12) (fun x10 x11 _ _ _ _ _ x17 x18 x19 x20 x21 x22 => AStep.next (AState.mk (AFrame.mk x17 x18 (@List.cons _ (AItem.code x10) (@List.cons _ (AItem.code x11) x22)) x19 AMode.run) x20 x21)) (fun x10 x11 x12 _ _ _ _ _ x18 x19 x20 x21 x22 x23 => Facode_2 x10 x11 x12 x18 x19 x20 x21 x22 x23) (fun x10 x11 _ _ _ _ x16 x17 x18 x19 x20 x21 => AStep.next (AState.mk (AFrame.mk x16 x17 (@List.cons _ (AItem.code x11) (@List.cons _ (AItem.inBlock x10) x21)) x18 AMode.run) x19 x20)) (fun x10 _ _ _ _ x15 x16 x17 x18 x19 x20 => AStep.next (AState.mk (AFrame.mk x15 x16 (@List.cons _ (AItem.code x10) (@List.cons _ (AItem.inLoop x10) x20)) x17 AMode.run) x18 x19)) (fun x10 x11 x12 x13 _ _ x16 _ _ x19 x20 x21 x22 x23 x24 => Facode_6 x10 x11 x12 x13 x16 x19 x20 x21 x22 x23 x24) (fun x10 x11 x12 x13 x14 x15 x16 x17 x18 x19 => Facode_7 x10 x11 x12 x13 x14 x15 x16 x17 x18 x19) (fun x10 _ _ _ _ x15 x16 x17 x18 x19 x20 => AStep.next (AState.mk (AFrame.mk x15 x16 (@List.cons _ (AItem.code x10) (@List.cons _ (AItem.inScope x10) x20)) x17 AMode.run) x18 x19)) (fun _ _ _ _ x14 x15 x16 x17 x18 x19 => AStep.next (AState.mk (AFrame.mk x14 x15 x19 x16 AMode.run) x17 x18)) (fun x10 x11 x12 x13 x14 x15 x16 x17 x18 x19 => Facode_8 x10 x11 x12 x13 x14 x15 x16 x17 x18 x19) (fun x10 x11 x12 _ _ _ _ _ _ => Faleave x10 x11 x12 (@Option.some _ Go.Code.ret)) (fun _ _ _ _ _ _ _ _ _ _ => AStep.fail) x9 x0 x1 x2 x3 x4 x5 x6 x7 x8)
theorem Facode_eq : @Facode = @Go.Abs.acode := by
  delta Facode
  delta Facode_8
  delta Facode_7
  delta Facode_6
  delta Facode_5
  delta Facode_4
  delta Facode_3
  delta Facode_2
  delta Facode_1
  delta Facode_0
  rw [Fflush_eq, Faeval_eq, FHeap_new_eq, FenterA_eq, FList_append_eq, Faleave_eq, FaexitTo_eq, FagotoIn_eq]; funext p0 p1 p2 p3 p4 p5 p6 p7 p8 p9; cases p9 <;> kernel_rfl
noncomputable def Farun_0 : (AProg → ((List (PTree AObj)) → (FInfo → (Env → ((List ADef) → ((List AFrame) → (Heap → ((List AItem) → ((Array Go.Oper) → ((List Go.Oper) → AStep)))))))))) :=
  (fun x0 x1 x2 x3 x4 x5 x6 x7 x8 x9 => @ROps.rec.{1} (fun _ => AStep) AStep.fail (fun x10 x11 => AStep.next (AState.mk (AFrame.mk x2 x10 x7 x4 AMode.run) x5 x11)) (fun x10 x11 x12 x13 => Faresume x0 x1 (AState.mk (AFrame.mk x2 x10 (@List.cons _ (AItem.inRegion x8 x12) x7) x4 AMode.run) x5 x11) x13) (Faops x0 x1 (FInfo.nt x2) x8 x9 x3 x6))
noncomputable def Farun_1 : (FInfo → (Env → ((List ADef) → ((List AFrame) → (Heap → ((List AItem) → (Pos → (ALoop → AStep)))))))) :=
  (fun x0 x1 x2 x3 x4 x5 x6 x7 => @Go.LoopState.rec.{1} (fun x8 => (((Nat.hasNotBit (nat_lit 2) (Go.LoopState.ctorIdx x8)) → AStep) → AStep)) (fun x8 => x8 (nbq (nat_lit 2) (nat_lit 0) rfl)) (fun _ => AStep.fail) (fun x8 => x8 (nbq (nat_lit 2) (nat_lit 2) rfl)) (fun x8 => x8 (nbq (nat_lit 2) (nat_lit 3) rfl)) (ALoop.state x7) (fun _ => AStep.next (AState.mk (AFrame.mk x0 x1 (@Option.rec.{1, 0} _ (fun _ => List AItem) x5 (fun x9 => @List.cons _ (AItem.code x9) x5) (ALoop.pending x7)) x2 AMode.run) x3 (FHeap_set x4 x6 (AObj.loop (ALoop.mk Go.LoopState.exhausted (ALoop.pending x7) (ALoop.fn x7) (ALoop.msk x7) (ALoop.nt x7) (ALoop.env x7) (ALoop.params x7) (ALoop.assign x7) (ALoop.body x7) (ALoop.defers x7)))))))
noncomputable def Farun_2 : (FInfo → (Env → ((List ADef) → ((List AFrame) → (Heap → ((List AItem) → (Pos → (AObj → AStep)))))))) :=
  (fun x0 x1 x2 x3 x4 x5 x6 x7 => @AObj.rec.{1} (fun x8 => (((Nat.hasNotBit (nat_lit 16) (AObj.ctorIdx x8)) → AStep) → AStep)) (fun x8 x9 x10 x11 x12 => x12 (nbq (nat_lit 16) (nat_lit 0) rfl)) (fun x8 x9 x10 => x10 (nbq (nat_lit 16) (nat_lit 1) rfl)) (fun x8 x9 x10 => x10 (nbq (nat_lit 16) (nat_lit 2) rfl)) (fun x8 x9 x10 x11 => x11 (nbq (nat_lit 16) (nat_lit 3) rfl)) (fun x8 _ => Farun_1 x0 x1 x2 x3 x4 x5 x6 x8) (fun x8 x9 => x9 (nbq (nat_lit 16) (nat_lit 5) rfl)) (fun x8 => x8 (nbq (nat_lit 16) (nat_lit 6) rfl)) x7 (fun _ => AStep.fail))
noncomputable def Farun_3 : ((List (PTree AObj)) → (FInfo → (Env → ((List ADef) → ((List AFrame) → (Heap → ((List AItem) → (Pos → AStep)))))))) :=
  (fun x0 x1 x2 x3 x4 x5 x6 x7 => @Option.rec.{1, 0} _ (fun x8 => (((Nat.hasNotBit (nat_lit 2) (@Option.ctorIdx AObj x8)) → AStep) → AStep)) (fun x8 => x8 (nbq (nat_lit 2) (nat_lit 0) rfl)) (fun x8 _ => Farun_2 x1 x2 x3 x4 x5 x6 x7 x8) (Fhget x0 x5 x7) (fun _ => AStep.fail))
noncomputable def Farun_4 : (FInfo → (Env → ((List ADef) → ((List AFrame) → (Heap → ((List AItem) → (Pos → (ALoop → AStep)))))))) :=
  (fun x0 x1 x2 x3 x4 x5 x6 x7 => AStep.next (AState.mk (AFrame.mk x0 x1 x5 x2 AMode.run) x3 (FHeap_set x4 x6 (AObj.loop (ALoop.mk Go.LoopState.busy (ALoop.pending x7) (ALoop.fn x7) (ALoop.msk x7) (ALoop.nt x7) (ALoop.env x7) (ALoop.params x7) (ALoop.assign x7) (ALoop.body x7) (ALoop.defers x7))))))
noncomputable def Farun_5 : (FInfo → (Env → ((List ADef) → ((List AFrame) → (Heap → ((List AItem) → (Pos → (ALoop → AStep)))))))) :=
  (fun x0 x1 x2 x3 x4 x5 x6 x7 => @Go.LoopState.rec.{1} (fun x8 => (((Nat.hasNotBit (nat_lit 1) (Go.LoopState.ctorIdx x8)) → AStep) → AStep)) (fun _ => Farun_4 x0 x1 x2 x3 x4 x5 x6 x7) (fun x8 => x8 (nbq (nat_lit 1) (nat_lit 1) rfl)) (fun x8 => x8 (nbq (nat_lit 1) (nat_lit 2) rfl)) (fun x8 => x8 (nbq (nat_lit 1) (nat_lit 3) rfl)) (ALoop.state x7) (fun _ => AStep.fail))
noncomputable def Farun_6 : (FInfo → (Env → ((List ADef) → ((List AFrame) → (Heap → ((List AItem) → (Pos → (AObj → AStep)))))))) :=
  (fun x0 x1 x2 x3 x4 x5 x6 x7 => @AObj.rec.{1} (fun x8 => (((Nat.hasNotBit (nat_lit 16) (AObj.ctorIdx x8)) → AStep) → AStep)) (fun x8 x9 x10 x11 x12 => x12 (nbq (nat_lit 16) (nat_lit 0) rfl)) (fun x8 x9 x10 => x10 (nbq (nat_lit 16) (nat_lit 1) rfl)) (fun x8 x9 x10 => x10 (nbq (nat_lit 16) (nat_lit 2) rfl)) (fun x8 x9 x10 x11 => x11 (nbq (nat_lit 16) (nat_lit 3) rfl)) (fun x8 _ => Farun_5 x0 x1 x2 x3 x4 x5 x6 x8) (fun x8 x9 => x9 (nbq (nat_lit 16) (nat_lit 5) rfl)) (fun x8 => x8 (nbq (nat_lit 16) (nat_lit 6) rfl)) x7 (fun _ => AStep.fail))
noncomputable def Farun_7 : ((List (PTree AObj)) → (FInfo → (Env → ((List ADef) → ((List AFrame) → (Heap → ((List AItem) → (Pos → AStep)))))))) :=
  (fun x0 x1 x2 x3 x4 x5 x6 x7 => @Option.rec.{1, 0} _ (fun x8 => (((Nat.hasNotBit (nat_lit 2) (@Option.ctorIdx AObj x8)) → AStep) → AStep)) (fun x8 => x8 (nbq (nat_lit 2) (nat_lit 0) rfl)) (fun x8 _ => Farun_6 x1 x2 x3 x4 x5 x6 x7 x8) (Fhget x0 x5 x7) (fun _ => AStep.fail))
noncomputable def Farun_8 : (AProg → ((List (PTree AObj)) → (AState → (FInfo → (Env → ((List ADef) → ((List AFrame) → (Heap → (AItem → ((List AItem) → AStep)))))))))) :=
  (fun x0 x1 x2 x3 x4 x5 x6 x7 x8 x9 => @AItem.rec.{1} (fun _ => AStep) (fun x10 => Facode x0 x1 x2 x3 x4 x5 x6 x7 x9 x10) (fun _ => AStep.next (AState.mk (AFrame.mk x3 x4 x9 x5 AMode.run) x6 x7)) (fun x10 => AStep.next (AState.mk (AFrame.mk x3 x4 (@List.cons _ (AItem.code x10) (@List.cons _ (AItem.inLoop x10) x9)) x5 AMode.run) x6 x7)) (fun _ => AStep.next (AState.mk (AFrame.mk x3 x4 x9 x5 AMode.run) x6 x7)) (fun x10 x11 => Farun_0 x0 x1 x3 x4 x5 x6 x7 x9 x10 x11) (fun _ => AStep.fail) (fun x10 => Farun_3 x1 x3 x4 x5 x6 x7 x9 x10) (@Option.rec.{1, 0} _ (fun _ => AStep) AStep.fail (fun x10 => Farun_7 x1 x3 x4 x5 x6 x7 x9 x10) (FInfo.rnd x3)) AStep.fail x8)
noncomputable def Farun : (AProg → ((List (PTree AObj)) → (AState → (FInfo → (Env → ((List ADef) → ((List AFrame) → (Heap → ((List AItem) → AStep))))))))) :=
  (fun x0 x1 x2 x3 x4 x5 x6 x7 x8 => @List.rec.{1, 0} _ (fun _ => AStep) (Faleave x0 x1 x2 (@Option.none _)) (fun x9 x10 _ => Farun_8 x0 x1 x2 x3 x4 x5 x6 x7 x9 x10) x8)
theorem Farun_eq : @Farun = @Go.Abs.arun := by
  delta Farun
  delta Farun_8
  delta Farun_7
  delta Farun_6
  delta Farun_5
  delta Farun_4
  delta Farun_3
  delta Farun_2
  delta Farun_1
  delta Farun_0
  rw [Faleave_eq, Facode_eq, Faresume_eq, Faops_eq, FHeap_set_eq, Fhget_eq]; kernel_rfl
noncomputable def Faunwind_0 : (Heap → (AFrame → ((List AFrame) → (FInfo → (Env → ((List AItem) → ((List ADef) → (Bool → AStep)))))))) :=
  (fun x0 x1 x2 x3 x4 x5 x6 x7 => @Bool.rec.{1} (fun x8 => (((Nat.hasNotBit (nat_lit 2) (Bool.ctorIdx x8)) → AStep) → AStep)) (fun x8 => x8 (nbq (nat_lit 2) (nat_lit 0) rfl)) (fun _ => AStep.next (AState.mk (AFrame.mk x3 x4 x5 x6 AMode.returning) x2 x0)) x7 (fun _ => AStep.next (AState.mk x1 x2 x0)))
noncomputable def Faunwind_1 : (Heap → (AFrame → ((List AFrame) → (FInfo → (Env → ((List AItem) → ((List ADef) → ((List (Prod AVal Bool)) → AStep)))))))) :=
  (fun x0 x1 x2 x3 x4 x5 x6 x7 => @List.rec.{1, 0} _ (fun x8 => (((Nat.hasNotBit (nat_lit 2) (@List.ctorIdx (Prod AVal Bool) x8)) → AStep) → AStep)) (fun x8 => x8 (nbq (nat_lit 2) (nat_lit 0) rfl)) (fun x8 x9 _ _ => @Prod.rec.{1, 0, 0} _ _ (fun _ => AStep) (fun _ x13 => Faunwind_0 x0 x1 x2 x3 x4 x5 x6 x13) x8) x7 (fun _ => AStep.next (AState.mk x1 x2 x0)))
noncomputable def Faunwind_2 : (Heap → (AFrame → ((List AFrame) → (FInfo → (Env → ((List AItem) → ((List ADef) → (AMode → AStep)))))))) :=
  (fun x0 x1 x2 x3 x4 x5 x6 x7 => @AMode.rec.{1} (fun x8 => (((Nat.hasNotBit (nat_lit 4) (AMode.ctorIdx x8)) → AStep) → AStep)) (fun x8 => x8 (nbq (nat_lit 4) (nat_lit 0) rfl)) (fun x8 => x8 (nbq (nat_lit 4) (nat_lit 1) rfl)) (fun x8 _ => Faunwind_1 x0 x1 x2 x3 x4 x5 x6 x8) x7 (fun _ => AStep.next (AState.mk x1 x2 x0)))
noncomputable def Faunwind_3 : (FInfo → (Heap → (AFrame → ((List AFrame) → (AVal → AStep))))) :=
  (fun x0 x1 x2 x3 x4 => @Bool.rec.{1} (fun _ => AStep) (@Option.rec.{1, 0} _ (fun _ => AStep) AStep.fail (fun x5 => AStep.next (AState.mk x5 x3 x1)) (FfinishA x2 x4)) (@AFrame.rec.{1} (fun _ => AStep) (fun x5 x6 x7 x8 x9 => Faunwind_2 x1 x2 x3 x5 x6 x7 x8 x9) x2) (FInfo.dk x0))
noncomputable def Faunwind_4 : (AProg → ((List (PTree AObj)) → (FInfo → (Env → ((List AFrame) → (Heap → AStep)))))) :=
  (fun x0 x1 x2 x3 x4 x5 => @List.rec.{1, 0} _ (fun x6 => (((Nat.hasNotBit (nat_lit 2) (@List.ctorIdx AFrame x6)) → AStep) → AStep)) (fun x6 => x6 (nbq (nat_lit 2) (nat_lit 0) rfl)) (fun x6 x7 _ _ => @Option.rec.{1, 0} _ (fun _ => AStep) AStep.fail (fun x10 => Faunwind_3 x2 x5 x6 x7 x10) (Faresult x0 x1 x5 (FInfo.fn x2) x3)) x4 (fun _ => AStep.fail))
noncomputable def Faunwind_5 : ((List AFrame) → (Heap → ((List (Prod AVal Bool)) → AStep))) :=
  (fun x0 x1 x2 => @List.rec.{1, 0} _ (fun x3 => (((Nat.hasNotBit (nat_lit 2) (@List.ctorIdx AFrame x3)) → AStep) → AStep)) (fun x3 => x3 (nbq (nat_lit 2) (nat_lit 0) rfl)) (fun x3 x4 _ _ => AStep.next (AState.mk (FraiseA x3 x2) x4 x1)) x0 (fun _ => AStep.fail))
noncomputable def Faunwind_6 : (AProg → ((List (PTree AObj)) → (FInfo → (Env → (AMode → ((List AFrame) → (Heap → AStep))))))) :=
  (fun x0 x1 x2 x3 x4 x5 x6 => @AMode.rec.{1} (fun x7 => (((Nat.hasNotBit (nat_lit 6) (AMode.ctorIdx x7)) → AStep) → AStep)) (fun x7 => x7 (nbq (nat_lit 6) (nat_lit 0) rfl)) (fun _ => Faunwind_4 x0 x1 x2 x3 x5 x6) (fun x7 _ => Faunwind_5 x5 x6 x7) x4 (fun _ => AStep.fail))
noncomputable def Faunwind_7 : (AProg → (FInfo → (Env → ((List AItem) → (AMode → ((List AFrame) → (Heap → ((List ADef) → (Go.FuncId → ((List AVal) → ((List AVal) → AStep))))))))))) :=
  (fun x0 x1 x2 x3 x4 x5 x6 x7 x8 x9 x10 => @Option.rec.{1, 0} _ (fun _ => AStep) AStep.fail (fun x11 => AStep.next (AState.mk x11 (@List.cons _ (AFrame.mk x1 x2 x3 x7 x4) x5) x6)) (FenterA x0 x8 (FList_append AVal x10 x9) Bool.true))
noncomputable def Faunwind_8 : (FInfo → (Env → ((List AItem) → (AMode → ((List AFrame) → (Heap → ((List ADef) → (Pos → ((Option (List ADef)) → AStep))))))))) :=
  (fun x0 x1 x2 x3 x4 x5 x6 x7 x8 => @Option.rec.{1, 0} _ (fun x9 => (((Nat.hasNotBit (nat_lit 2) (@Option.ctorIdx (List ADef) x9)) → AStep) → AStep)) (fun x9 => x9 (nbq (nat_lit 2) (nat_lit 0) rfl)) (fun x9 _ => AStep.next (AState.mk (AFrame.mk x0 x1 x2 (FList_append ADef x9 x6) x3) x4 (FHeap_set x5 x7 (AObj.deferred (@Option.none _))))) x8 (fun _ => AStep.fail))
noncomputable def Faunwind_9 : (FInfo → (Env → ((List AItem) → (AMode → ((List AFrame) → (Heap → ((List ADef) → (Pos → (AObj → AStep))))))))) :=
  (fun x0 x1 x2 x3 x4 x5 x6 x7 x8 => @AObj.rec.{1} (fun x9 => (((Nat.hasNotBit (nat_lit 32) (AObj.ctorIdx x9)) → AStep) → AStep)) (fun x9 x10 x11 x12 x13 => x13 (nbq (nat_lit 32) (nat_lit 0) rfl)) (fun x9 x10 x11 => x11 (nbq (nat_lit 32) (nat_lit 1) rfl)) (fun x9 x10 x11 => x11 (nbq (nat_lit 32) (nat_lit 2) rfl)) (fun x9 x10 x11 x12 => x12 (nbq (nat_lit 32) (nat_lit 3) rfl)) (fun x9 x10 => x10 (nbq (nat_lit 32) (nat_lit 4) rfl)) (fun x9 _ => Faunwind_8 x0 x1 x2 x3 x4 x5 x6 x7 x9) (fun x9 => x9 (nbq (nat_lit 32) (nat_lit 6) rfl)) x8 (fun _ => AStep.fail))
noncomputable def Faunwind_10 : ((List (PTree AObj)) → (FInfo → (Env → ((List AItem) → (AMode → ((List AFrame) → (Heap → ((List ADef) → (Pos → AStep))))))))) :=
  (fun x0 x1 x2 x3 x4 x5 x6 x7 x8 => @Option.rec.{1, 0} _ (fun x9 => (((Nat.hasNotBit (nat_lit 2) (@Option.ctorIdx AObj x9)) → AStep) → AStep)) (fun x9 => x9 (nbq (nat_lit 2) (nat_lit 0) rfl)) (fun x9 _ => Faunwind_9 x1 x2 x3 x4 x5 x6 x7 x8 x9) (Fhget x0 x6 x8) (fun _ => AStep.fail))
noncomputable def Faunwind_11 : (AProg → ((List (PTree AObj)) → (FInfo → (Env → ((List AItem) → (AMode → ((List AFrame) → (Heap → (ADef → ((List ADef) → AStep)))))))))) :=
  (fun x0 x1 x2 x3 x4 x5 x6 x7 x8 x9 => @ADef.rec.{1} (fun _ => AStep) (fun x10 x11 x12 => Faunwind_7 x0 x2 x3 x4 x5 x6 x7 x9 x10 x11 x12) (fun x10 => Faunwind_10 x1 x2 x3 x4 x5 x6 x7 x9 x10) x8)
noncomputable def Faunwind : (AProg → ((List (PTree AObj)) → (FInfo → (Env → ((List AItem) → ((List ADef) → (AMode → ((List AFrame) → (Heap → AStep))))))))) :=
  (fun x0 x1 x2 x3 x4 x5 x6 x7 x8 => @List.rec.{1, 0} _ (fun _ => AStep) (Faunwind_6 x0 x1 x2 x3 x6 x7 x8) (fun x9 x10 _ => Faunwind_11 x0 x1 x2 x3 x4 x6 x7 x8 x9 x10) x5)
theorem Faunwind_eq : @Faunwind = @Go.Abs.aunwind := by
  delta Faunwind
  delta Faunwind_11
  delta Faunwind_10
  delta Faunwind_9
  delta Faunwind_8
  delta Faunwind_7
  delta Faunwind_6
  delta Faunwind_5
  delta Faunwind_4
  delta Faunwind_3
  delta Faunwind_2
  delta Faunwind_1
  delta Faunwind_0
  rw [FfinishA_eq, Faresult_eq, FraiseA_eq, FenterA_eq, FList_append_eq, FHeap_set_eq, Fhget_eq]; kernel_rfl
noncomputable def Fastep_0 : (AProg → ((List (PTree AObj)) → (AState → ((List AFrame) → (Heap → (FInfo → (Env → ((List AItem) → ((List ADef) → (AMode → AStep)))))))))) :=
  (fun x0 x1 x2 x3 x4 x5 x6 x7 x8 x9 => @AMode.rec.{1} (fun x10 => (((Nat.hasNotBit (nat_lit 1) (AMode.ctorIdx x10)) → AStep) → AStep)) (fun _ => Farun x0 x1 x2 x5 x6 x8 x3 x4 x7) (fun x10 => x10 (nbq (nat_lit 1) (nat_lit 1) rfl)) (fun x10 x11 => x11 (nbq (nat_lit 1) (nat_lit 2) rfl)) x9 (fun _ => Faunwind x0 x1 x5 x6 x7 x8 x9 x3 x4))
noncomputable def Fastep : (AProg → ((List (PTree AObj)) → (AState → AStep))) :=
  (fun x0 x1 x2 => @AState.rec.{1} (fun _ => AStep) (fun x3 x4 x5 => @AFrame.rec.{1} (fun _ => AStep) (fun x6 x7 x8 x9 x10 => Fastep_0 x0 x1 x2 x4 x5 x6 x7 x8 x9 x10) x3) x2)
theorem Fastep_eq : @Fastep = @Go.Abs.astep := by
  delta Fastep
  delta Fastep_0
  rw [Farun_eq, Faunwind_eq]; kernel_rfl
noncomputable def FbeqChain_0 : ((Prod AVal Bool) → (((List (Prod AVal Bool)) → Bool) → ((Prod AVal Bool) → ((List (Prod AVal Bool)) → Bool)))) :=
  (fun x0 x1 x2 x3 => @Bool.rec.{1} (fun _ => Bool) Bool.false (@Bool.rec.{1} (fun _ => Bool) Bool.false (x1 x3) (FbeqBool (@Prod.snd AVal Bool x0) (@Prod.snd AVal Bool x2))) (beqV (@Prod.fst AVal Bool x0) (@Prod.fst AVal Bool x2)))
noncomputable def FbeqChain : ((List (Prod AVal Bool)) → ((List (Prod AVal Bool)) → Bool)) :=
  (fun x0 => @List.rec.{1, 0} _ (fun _ => ((List (Prod AVal Bool)) → Bool)) (fun x1 => @List.rec.{1, 0} _ (fun _ => Bool) Bool.true (fun _ _ _ => Bool.false) x1) (fun x1 _ x3 x4 => @List.rec.{1, 0} _ (fun _ => Bool) Bool.false (fun x5 x6 _ => FbeqChain_0 x1 x3 x5 x6) x4) x0)
theorem FbeqChain_eq : @FbeqChain = @Go.Abs.beqChain := by
  funext p0
  refine @List.rec _ (fun x => @FbeqChain x = @Go.Abs.beqChain x) ?_ ?_ p0
  · skip
    refine Eq.trans (show (@FbeqChain (@List.nil _)) = (fun x0 => @List.rec.{1, 0} _ (fun _ => Bool) Bool.true (fun _ _ _ => Bool.false) x0) by kernel_rfl) ?_
    kernel_rfl
  · intro f0 f1 h0
    refine Eq.trans (show (@FbeqChain (@List.cons _ f0 f1)) = (fun x0 => @List.rec.{1, 0} _ (fun _ => Bool) Bool.false (fun x1 x2 _ => FbeqChain_0 f0 (@FbeqChain f1) x1 x2) x0) by kernel_rfl) ?_
    delta FbeqChain_0
    generalize (@FbeqChain f1) = r0 at h0 ⊢
    subst h0
    rw [FbeqBool_eq]
    kernel_rfl
noncomputable def FbeqEnd : (AEnd → (AEnd → Bool)) :=
  (fun x0 x1 => @AEnd.rec.{1} (fun _ => Bool) (fun x2 => @AEnd.rec.{1} (fun x3 => (((Nat.hasNotBit (nat_lit 1) (AEnd.ctorIdx x3)) → Bool) → Bool)) (fun x3 _ => beqV x2 x3) (fun x3 x4 => x4 (nbq (nat_lit 1) (nat_lit 1) rfl)) x1 (fun _ => Bool.false)) (fun x2 => @AEnd.rec.{1} (fun x3 => (((Nat.hasNotBit (nat_lit 2) (AEnd.ctorIdx x3)) → Bool) → Bool)) (fun x3 x4 => x4 (nbq (nat_lit 2) (nat_lit 0) rfl)) (fun x3 _ => FbeqChain x2 x3) x1 (fun _ => Bool.false)) x0)
theorem FbeqEnd_eq : @FbeqEnd = @Go.Abs.beqEnd := by
  delta FbeqEnd
  rw [FbeqChain_eq]; kernel_rfl
noncomputable def Fkilled : ((PTree AObj) → (PTree AObj)) :=
  (fun x0 => @PTree.rec.{1} _ (fun _ => PTree AObj) (@PTree.leaf _) (fun _ x2 _ x4 x5 => @PTree.node _ x4 (@Option.rec.{1, 0} _ (fun _ => Option AObj) (@Option.none _) (fun _ => @Option.some _ AObj.gone) x2) x5) x0)
theorem Fkilled_eq : @Fkilled = @Go.Abs.killed := by
  funext p0
  refine @Go.Abs.PTree.rec _ (fun x => @Fkilled x = @Go.Abs.killed x) ?_ ?_ p0
  · skip
    refine Eq.trans (show (@Fkilled (@Go.Abs.PTree.leaf _)) = (@PTree.leaf _) by kernel_rfl) ?_
    kernel_rfl
  · intro f0 f1 f2 h0 h1
    refine Eq.trans (show (@Fkilled (@Go.Abs.PTree.node _ f0 f1 f2)) = (@PTree.node _ (@Fkilled f0) (@Option.rec.{1, 0} _ (fun _ => Option AObj) (@Option.none _) (fun _ => @Option.some _ AObj.gone) f1) (@Fkilled f2)) by kernel_rfl) ?_
    generalize (@Fkilled f0) = r0 at h0 ⊢
    subst h0
    generalize (@Fkilled f2) = r1 at h1 ⊢
    subst h1
    kernel_rfl
noncomputable def FbeqEs_0 : (AEntry → (((List AEntry) → Bool) → (AEntry → ((List AEntry) → Bool)))) :=
  (fun x0 x1 x2 x3 => @Bool.rec.{1} (fun _ => Bool) Bool.false (@Bool.rec.{1} (fun _ => Bool) Bool.false (@Bool.rec.{1} (fun _ => Bool) Bool.false (x1 x3) (Nat.beq (AEntry.born x0) (AEntry.born x2))) (beqV (AEntry.v x0) (AEntry.v x2))) (beqV (AEntry.k x0) (AEntry.k x2)))
noncomputable def FbeqEs : ((List AEntry) → ((List AEntry) → Bool)) :=
  (fun x0 => @List.rec.{1, 0} _ (fun _ => ((List AEntry) → Bool)) (fun x1 => @List.rec.{1, 0} _ (fun _ => Bool) Bool.true (fun _ _ _ => Bool.false) x1) (fun x1 _ x3 x4 => @List.rec.{1, 0} _ (fun _ => Bool) Bool.false (fun x5 x6 _ => FbeqEs_0 x1 x3 x5 x6) x4) x0)
theorem FbeqEs_eq : @FbeqEs = @Go.Abs.beqEs := by
  funext p0
  refine @List.rec _ (fun x => @FbeqEs x = @Go.Abs.beqEs x) ?_ ?_ p0
  · skip
    refine Eq.trans (show (@FbeqEs (@List.nil _)) = (fun x0 => @List.rec.{1, 0} _ (fun _ => Bool) Bool.true (fun _ _ _ => Bool.false) x0) by kernel_rfl) ?_
    kernel_rfl
  · intro f0 f1 h0
    refine Eq.trans (show (@FbeqEs (@List.cons _ f0 f1)) = (fun x0 => @List.rec.{1, 0} _ (fun _ => Bool) Bool.false (fun x1 x2 _ => FbeqEs_0 f0 (@FbeqEs f1) x1 x2) x0) by kernel_rfl) ?_
    delta FbeqEs_0
    generalize (@FbeqEs f1) = r0 at h0 ⊢
    subst h0
    kernel_rfl
noncomputable def FbeqO_0 : ((List AVal) → (Nat → (Bool → (Bool → (AObj → Bool))))) :=
  (fun x0 x1 x2 x3 x4 => @AObj.rec.{1} (fun x5 => (((Nat.hasNotBit (nat_lit 1) (AObj.ctorIdx x5)) → Bool) → Bool)) (fun x5 x6 x7 x8 _ => @Bool.rec.{1} (fun _ => Bool) Bool.false (@Bool.rec.{1} (fun _ => Bool) Bool.false (@Bool.rec.{1} (fun _ => Bool) Bool.false (FbeqBool x3 x8) (FbeqBool x2 x7)) (Nat.beq x1 x6)) (beqVs x0 x5)) (fun x5 x6 x7 => x7 (nbq (nat_lit 1) (nat_lit 1) rfl)) (fun x5 x6 x7 => x7 (nbq (nat_lit 1) (nat_lit 2) rfl)) (fun x5 x6 x7 x8 => x8 (nbq (nat_lit 1) (nat_lit 3) rfl)) (fun x5 x6 => x6 (nbq (nat_lit 1) (nat_lit 4) rfl)) (fun x5 x6 => x6 (nbq (nat_lit 1) (nat_lit 5) rfl)) (fun x5 => x5 (nbq (nat_lit 1) (nat_lit 6) rfl)) x4 (fun _ => Bool.false))
noncomputable def FbeqO_1 : ((List AEntry) → (Nat → (AObj → Bool))) :=
  (fun x0 x1 x2 => @AObj.rec.{1} (fun x3 => (((Nat.hasNotBit (nat_lit 2) (AObj.ctorIdx x3)) → Bool) → Bool)) (fun x3 x4 x5 x6 x7 => x7 (nbq (nat_lit 2) (nat_lit 0) rfl)) (fun x3 x4 _ => @Bool.rec.{1} (fun _ => Bool) Bool.false (FbeqEs x0 x3) (Nat.beq x1 x4)) (fun x3 x4 x5 => x5 (nbq (nat_lit 2) (nat_lit 2) rfl)) (fun x3 x4 x5 x6 => x6 (nbq (nat_lit 2) (nat_lit 3) rfl)) (fun x3 x4 => x4 (nbq (nat_lit 2) (nat_lit 4) rfl)) (fun x3 x4 => x4 (nbq (nat_lit 2) (nat_lit 5) rfl)) (fun x3 => x3 (nbq (nat_lit 2) (nat_lit 6) rfl)) x2 (fun _ => Bool.false))
noncomputable def FbeqO : (AObj → (AObj → Bool)) :=
  (fun x0 x1 => @AObj.rec.{1} (fun _ => (AObj → Bool)) (fun x2 x3 x4 x5 x6 => FbeqO_0 x2 x3 x4 x5 x6) (fun x2 x3 x4 => FbeqO_1 x2 x3 x4) (fun _ _ _ => Bool.false) (fun _ _ _ _ => Bool.false) (fun _ _ => Bool.false) (fun _ _ => Bool.false) (fun _ => Bool.false) x0 x1)
theorem FbeqO_eq : @FbeqO = @Go.Abs.beqO := by
  delta FbeqO
  delta FbeqO_1
  delta FbeqO_0
  rw [FbeqBool_eq, FbeqEs_eq]; funext p0 p1; cases p0 <;> kernel_rfl
noncomputable def FmeetO_0 : ((Option AObj) → (AObj → (Option AObj))) :=
  (fun x0 x1 => @Option.rec.{1, 0} _ (fun x2 => (((Nat.hasNotBit (nat_lit 2) (@Option.ctorIdx AObj x2)) → (Option AObj)) → (Option AObj))) (fun x2 => x2 (nbq (nat_lit 2) (nat_lit 0) rfl)) (fun x2 _ => @Option.some _ (@Bool.rec.{1} (fun _ => AObj) AObj.gone x1 (FbeqO x1 x2))) x0 (fun _ => @Option.some _ AObj.gone))
noncomputable def FmeetO : ((Option AObj) → ((Option AObj) → (Option AObj))) :=
  (fun x0 x1 => @Option.rec.{1, 0} _ (fun _ => Option AObj) (@Option.rec.{1, 0} _ (fun x2 => (((Nat.hasNotBit (nat_lit 1) (@Option.ctorIdx AObj x2)) → (Option AObj)) → (Option AObj))) (fun _ => @Option.none _) (fun x2 x3 => x3 (nbq (nat_lit 1) (nat_lit 1) rfl)) x1 (fun _ => @Option.some _ AObj.gone)) (fun x2 => FmeetO_0 x1 x2) x0)
theorem FmeetO_eq : @FmeetO = @Go.Abs.meetO := by
  delta FmeetO
  delta FmeetO_0
  rw [FbeqO_eq]; kernel_rfl
noncomputable def Fmeet_0 : ((PTree AObj) → ((Option AObj) → ((PTree AObj) → (((PTree AObj) → (PTree AObj)) → (((PTree AObj) → (PTree AObj)) → ((PTree AObj) → (PTree AObj))))))) :=
  (fun x0 x1 x2 x3 x4 x5 => @PTree.rec.{1} _ (fun _ => PTree AObj) (@PTree.node _ (Fkilled x0) (@Option.rec.{1, 0} _ (fun _ => Option AObj) (@Option.none _) (fun _ => @Option.some _ AObj.gone) x1) (Fkilled x2)) (fun x6 x7 x8 _ _ => @PTree.node _ (x3 x6) (FmeetO x1 x7) (x4 x8)) x5)
noncomputable def Fmeet : ((PTree AObj) → ((PTree AObj) → (PTree AObj))) :=
  (fun x0 => @PTree.rec.{1} _ (fun _ => ((PTree AObj) → (PTree AObj))) (fun x1 => Fkilled x1) (fun x1 x2 x3 x4 x5 x6 => Fmeet_0 x1 x2 x3 x4 x5 x6) x0)
theorem Fmeet_eq : @Fmeet = @Go.Abs.meet := by
  funext p0
  refine @Go.Abs.PTree.rec _ (fun x => @Fmeet x = @Go.Abs.meet x) ?_ ?_ p0
  · skip
    refine Eq.trans (show (@Fmeet (@Go.Abs.PTree.leaf _)) = (fun x0 => Fkilled x0) by kernel_rfl) ?_
    rw [Fkilled_eq]
    kernel_rfl
  · intro f0 f1 f2 h0 h1
    refine Eq.trans (show (@Fmeet (@Go.Abs.PTree.node _ f0 f1 f2)) = (fun x0 => Fmeet_0 f0 f1 f2 (@Fmeet f0) (@Fmeet f2) x0) by kernel_rfl) ?_
    delta Fmeet_0
    generalize (@Fmeet f0) = r0 at h0 ⊢
    subst h0
    generalize (@Fmeet f2) = r1 at h1 ⊢
    subst h1
    rw [Fkilled_eq, FmeetO_eq]
    kernel_rfl
noncomputable def FPos_toNat : (Pos → Nat) :=
  (fun x0 => @Pos.rec.{1} (fun _ => Nat) (nat_lit 1) (fun _ x2 => Nat.mul (nat_lit 2) x2) (fun _ x2 => Nat.add (Nat.mul (nat_lit 2) x2) (nat_lit 1)) x0)
theorem FPos_toNat_eq : @FPos_toNat = @Go.Abs.Pos.toNat := by
  funext p0
  refine @Go.Abs.Pos.rec  (fun x => @FPos_toNat x = @Go.Abs.Pos.toNat x) ?_ ?_ ?_ p0
  · skip
    refine Eq.trans (show (@FPos_toNat (@Go.Abs.Pos.H )) = (nat_lit 1) by kernel_rfl) ?_
    kernel_rfl
  · intro f0 h0
    refine Eq.trans (show (@FPos_toNat (@Go.Abs.Pos.O f0)) = (Nat.mul (nat_lit 2) (@FPos_toNat f0)) by kernel_rfl) ?_
    generalize (@FPos_toNat f0) = r0 at h0 ⊢
    subst h0
    kernel_rfl
  · intro f0 h0
    refine Eq.trans (show (@FPos_toNat (@Go.Abs.Pos.I f0)) = (Nat.add (Nat.mul (nat_lit 2) (@FPos_toNat f0)) (nat_lit 1)) by kernel_rfl) ?_
    generalize (@FPos_toNat f0) = r0 at h0 ⊢
    subst h0
    kernel_rfl
noncomputable def FmaxPos : (Pos → (Pos → Pos)) :=
  (fun x0 x1 => @Bool.rec.{1} (fun _ => Pos) x0 x1 (Nat.ble (FPos_toNat x0) (FPos_toNat x1)))
theorem FmaxPos_eq : @FmaxPos = @Go.Abs.maxPos := by
  delta FmaxPos
  rw [FPos_toNat_eq]; kernel_rfl
noncomputable def FmeetOut_0 : ((Prod AEnd Heap) → ((Prod AEnd Heap) → (Option (Prod AEnd Heap)))) :=
  (fun x0 x1 => @Option.some _ (@Prod.mk _ _ (@Prod.fst AEnd Heap x0) (Heap.mk (Fmeet (Heap.top (@Prod.snd AEnd Heap x0)) (Heap.top (@Prod.snd AEnd Heap x1))) (FmaxPos (Heap.next (@Prod.snd AEnd Heap x0)) (Heap.next (@Prod.snd AEnd Heap x1))))))
noncomputable def FmeetOut : ((Prod AEnd Heap) → ((Prod AEnd Heap) → (Option (Prod AEnd Heap)))) :=
  (fun x0 x1 => @Bool.rec.{1} (fun _ => Option (Prod AEnd Heap)) (@Option.none _) (FmeetOut_0 x0 x1) (FbeqEnd (@Prod.fst AEnd Heap x0) (@Prod.fst AEnd Heap x1)))
theorem FmeetOut_eq : @FmeetOut = @Go.Abs.meetOut := by
  delta FmeetOut
  delta FmeetOut_0
  rw [Fmeet_eq, FmaxPos_eq, FbeqEnd_eq]; kernel_rfl
noncomputable def FrunAll_0 : ((Option (Prod AEnd Heap)) → ((Prod AEnd Heap) → (Option (Prod AEnd Heap)))) :=
  (fun x0 x1 => @Option.rec.{1, 0} _ (fun x2 => (((Nat.hasNotBit (nat_lit 2) (@Option.ctorIdx (Prod AEnd Heap) x2)) → (Option (Prod AEnd Heap))) → (Option (Prod AEnd Heap)))) (fun x2 => x2 (nbq (nat_lit 2) (nat_lit 0) rfl)) (fun x2 _ => FmeetOut x1 x2) x0 (fun _ => @Option.none _))
noncomputable def FrunAll_1 : ((AState → (Option (Prod AEnd Heap))) → (AState → ((Option (Prod AEnd Heap)) → (Option (Prod AEnd Heap))))) :=
  (fun x0 x1 x2 => @Option.rec.{1, 0} _ (fun x3 => (((Nat.hasNotBit (nat_lit 2) (@Option.ctorIdx (Prod AEnd Heap) x3)) → (Option (Prod AEnd Heap))) → (Option (Prod AEnd Heap)))) (fun x3 => x3 (nbq (nat_lit 2) (nat_lit 0) rfl)) (fun x3 _ => FrunAll_0 x2 x3) (x0 x1) (fun _ => @Option.none _))
noncomputable def FrunAll : ((AState → (Option (Prod AEnd Heap))) → ((List AState) → (Option (Prod AEnd Heap)))) :=
  (fun x0 x1 => @List.rec.{1, 0} _ (fun _ => Option (Prod AEnd Heap)) (@Option.none _) (fun x2 x3 x4 => @List.rec.{1, 0} _ (fun _ => Option (Prod AEnd Heap)) (x0 x2) (fun _ _ _ => FrunAll_1 x0 x2 x4) x3) x1)
theorem FrunAll_eq : @FrunAll = @Go.Abs.runAll := by
  funext p0 p1
  refine @List.rec _ (fun x => @FrunAll p0 x = @Go.Abs.runAll p0 x) ?_ ?_ p1
  · skip
    refine Eq.trans (show (@FrunAll p0 (@List.nil _)) = (@Option.none _) by kernel_rfl) ?_
    kernel_rfl
  · intro f0 f1 h0
    refine Eq.trans (show (@FrunAll p0 (@List.cons _ f0 f1)) = (@List.rec.{1, 0} _ (fun _ => Option (Prod AEnd Heap)) (p0 f0) (fun _ _ _ => FrunAll_1 p0 f0 (@FrunAll p0 f1)) f1) by kernel_rfl) ?_
    delta FrunAll_1
    delta FrunAll_0
    generalize (@FrunAll p0 f1) = r0 at h0 ⊢
    subst h0
    rw [FmeetOut_eq]
    kernel_rfl
noncomputable def FPTree_orElse : ((x0 : Type) → ((Option x0) → ((Option x0) → (Option x0)))) :=
  (fun x0 x1 x2 => @Option.rec.{1, 0} x0 (fun _ => Option x0) x2 (fun x3 => @Option.some x0 x3) x1)
theorem FPTree_orElse_eq : @FPTree_orElse = @Go.Abs.PTree.orElse := by
  delta FPTree_orElse
  kernel_rfl
noncomputable def FPTree_union : ((x0 : Type) → ((PTree x0) → ((PTree x0) → (PTree x0)))) :=
  (fun x0 x1 => @PTree.rec.{1} x0 (fun _ => ((PTree x0) → (PTree x0))) (fun x2 => x2) (fun x2 x3 x4 x5 x6 x7 => @PTree.rec.{1} x0 (fun _ => PTree x0) (@PTree.node x0 x2 x3 x4) (fun x8 x9 x10 _ _ => @PTree.node x0 (x5 x8) (FPTree_orElse x0 x3 x9) (x6 x10)) x7) x1)
theorem FPTree_union_eq : @FPTree_union = @Go.Abs.PTree.union := by
  funext p0 p1
  refine @Go.Abs.PTree.rec _ (fun x => @FPTree_union p0 x = @Go.Abs.PTree.union p0 x) ?_ ?_ p1
  · skip
    refine Eq.trans (show (@FPTree_union p0 (@Go.Abs.PTree.leaf _)) = (fun x0 => x0) by kernel_rfl) ?_
    kernel_rfl
  · intro f0 f1 f2 h0 h1
    refine Eq.trans (show (@FPTree_union p0 (@Go.Abs.PTree.node _ f0 f1 f2)) = (fun x0 => @PTree.rec.{1} p0 (fun _ => PTree p0) (@PTree.node p0 f0 f1 f2) (fun x1 x2 x3 _ _ => @PTree.node p0 ((@FPTree_union p0 f0) x1) (FPTree_orElse p0 f1 x2) ((@FPTree_union p0 f2) x3)) x0) by kernel_rfl) ?_
    generalize (@FPTree_union p0 f0) = r0 at h0 ⊢
    subst h0
    generalize (@FPTree_union p0 f2) = r1 at h1 ⊢
    subst h1
    rw [FPTree_orElse_eq]
    kernel_rfl
noncomputable def FedgeBits_0 : (Go.Edge → ((Option Nat) → (Nat → (Option Nat)))) :=
  (fun x0 x1 x2 => @Option.rec.{1, 0} _ (fun x3 => (((Nat.hasNotBit (nat_lit 2) (@Option.ctorIdx Nat x3)) → (Option Nat)) → (Option Nat))) (fun x3 => x3 (nbq (nat_lit 2) (nat_lit 0) rfl)) (fun x3 _ => @Option.some _ (Nat.lor (Nat.lor (Nat.pow (nat_lit 2) (Go.Edge.on x0)) x2) x3)) x1 (fun _ => @Option.none _))
noncomputable def FedgeBits_1 : ((List Nat) → (Go.Edge → ((Option Nat) → (Option Nat)))) :=
  (fun x0 x1 x2 => @Go.Ground.rec.{1} (fun x3 => (((Nat.hasNotBit (nat_lit 48) (Go.Ground.ctorIdx x3)) → (Option Nat)) → (Option Nat))) (fun x3 => x3 (nbq (nat_lit 48) (nat_lit 0) rfl)) (fun x3 => x3 (nbq (nat_lit 48) (nat_lit 1) rfl)) (fun x3 => x3 (nbq (nat_lit 48) (nat_lit 2) rfl)) (fun x3 => x3 (nbq (nat_lit 48) (nat_lit 3) rfl)) (fun x3 _ => x2) (fun x3 _ => x2) (Go.Edge.ground x1) (fun _ => @Option.rec.{1, 0} _ (fun x4 => (((Nat.hasNotBit (nat_lit 2) (@Option.ctorIdx Nat x4)) → (Option Nat)) → (Option Nat))) (fun x4 => x4 (nbq (nat_lit 2) (nat_lit 0) rfl)) (fun x4 _ => FedgeBits_0 x1 x2 x4) (Fnth Nat (Go.Edge.on x1) x0) (fun _ => @Option.none _)))
noncomputable def FedgeBits : ((List Nat) → ((List Go.Edge) → (Option Nat))) :=
  (fun x0 x1 => @List.rec.{1, 0} _ (fun _ => Option Nat) (@Option.some _ (nat_lit 0)) (fun x2 _ x4 => FedgeBits_1 x0 x2 x4) x1)
theorem FedgeBits_eq : @FedgeBits = @Go.Abs.edgeBits := by
  funext p0 p1
  refine @List.rec _ (fun x => @FedgeBits p0 x = @Go.Abs.edgeBits p0 x) ?_ ?_ p1
  · skip
    refine Eq.trans (show (@FedgeBits p0 (@List.nil _)) = (@Option.some _ (nat_lit 0)) by kernel_rfl) ?_
    kernel_rfl
  · intro f0 f1 h0
    refine Eq.trans (show (@FedgeBits p0 (@List.cons _ f0 f1)) = (FedgeBits_1 p0 f0 (@FedgeBits p0 f1)) by kernel_rfl) ?_
    delta FedgeBits_1
    delta FedgeBits_0
    generalize (@FedgeBits p0 f1) = r0 at h0 ⊢
    subst h0
    rw [Fnth_eq]
    kernel_rfl
noncomputable def FallBits : ((List Go.Oper) → ((List Nat) → (Option (List Nat)))) :=
  (fun x0 => @List.rec.{1, 0} _ (fun _ => ((List Nat) → (Option (List Nat)))) (fun x1 => @Option.some _ x1) (fun x1 _ x3 x4 => @Option.rec.{1, 0} _ (fun _ => Option (List Nat)) (@Option.none _) (fun x5 => x3 (FList_append Nat x4 (@List.cons _ x5 (@List.nil _)))) (FedgeBits x4 (@Array.toList Go.Edge (Go.Oper.after x1)))) x0)
theorem FallBits_eq : @FallBits = @Go.Abs.allBits := by
  funext p0
  refine @List.rec _ (fun x => @FallBits x = @Go.Abs.allBits x) ?_ ?_ p0
  · skip
    refine Eq.trans (show (@FallBits (@List.nil _)) = (fun x0 => @Option.some _ x0) by kernel_rfl) ?_
    kernel_rfl
  · intro f0 f1 h0
    refine Eq.trans (show (@FallBits (@List.cons _ f0 f1)) = (fun x0 => @Option.rec.{1, 0} _ (fun _ => Option (List Nat)) (@Option.none _) (fun x1 => (@FallBits f1) (FList_append Nat x0 (@List.cons _ x1 (@List.nil _)))) (FedgeBits x0 (@Array.toList Go.Edge (Go.Oper.after f0)))) by kernel_rfl) ?_
    generalize (@FallBits f1) = r0 at h0 ⊢
    subst h0
    rw [FList_append_eq, FedgeBits_eq]
    kernel_rfl
noncomputable def Fnumbered : Nat → List Go.Oper → List Nat → List Nat → List (Nat × Go.Oper × Nat × Nat) :=
  fun i l ks bs => @List.rec.{1, 0} _ (fun _ => Nat → List Nat → List Nat → List (Nat × Go.Oper × Nat × Nat)) (fun _ _ _ => []) (fun o _ ih i ks bs => @List.rec.{1, 0} _ (fun _ => List (Nat × Go.Oper × Nat × Nat)) [] (fun k ks _ => @List.rec.{1, 0} _ (fun _ => List (Nat × Go.Oper × Nat × Nat)) [] (fun b bs _ => (i, o, k, b) :: ih (Nat.succ i) ks bs) bs) ks) l i ks bs
theorem Fnumbered_eq : @Fnumbered = @numbered := by
  funext i l ks bs
  induction l generalizing i ks bs with
  | nil => cases ks <;> cases bs <;> kernel_rfl
  | cons o l ih =>
    cases ks with
    | nil => cases bs <;> kernel_rfl
    | cons k ks =>
      cases bs with
      | nil => kernel_rfl
      | cons b bs =>
        refine Eq.trans (show Fnumbered i (o :: l) (k :: ks) (b :: bs) = (i, o, k, b) :: Fnumbered (Nat.succ i) l ks bs by kernel_rfl) ?_
        rw [ih]
        kernel_rfl
noncomputable def Fkinds : (AProg → ((List Go.Oper) → (List Nat))) :=
  (fun x0 x1 => @List.rec.{1, 0} _ (fun _ => List Nat) (@List.nil _) (fun x2 _ x4 => @List.cons _ (FkindOf x0 (Go.Oper.op x2)) x4) x1)
theorem Fkinds_eq : @Fkinds = @Go.Abs.kinds := by
  funext p0 p1
  refine @List.rec _ (fun x => @Fkinds p0 x = @Go.Abs.kinds p0 x) ?_ ?_ p1
  · skip
    refine Eq.trans (show (@Fkinds p0 (@List.nil _)) = (@List.nil _) by kernel_rfl) ?_
    kernel_rfl
  · intro f0 f1 h0
    refine Eq.trans (show (@Fkinds p0 (@List.cons _ f0 f1)) = (@List.cons _ (FkindOf p0 (Go.Oper.op f0)) (@Fkinds p0 f1)) by kernel_rfl) ?_
    generalize (@Fkinds p0 f1) = r0 at h0 ⊢
    subst h0
    rw [FkindOf_eq]
    kernel_rfl
noncomputable def FdstNe : ((Option Go.Tmp) → ((Option Go.Tmp) → Bool)) :=
  (fun x0 x1 => @Option.rec.{1, 0} _ (fun x2 => (((Nat.hasNotBit (nat_lit 2) (@Option.ctorIdx Go.Tmp x2)) → Bool) → Bool)) (fun x2 => x2 (nbq (nat_lit 2) (nat_lit 0) rfl)) (fun x2 _ => @Option.rec.{1, 0} _ (fun x4 => (((Nat.hasNotBit (nat_lit 2) (@Option.ctorIdx Go.Tmp x4)) → Bool) → Bool)) (fun x4 => x4 (nbq (nat_lit 2) (nat_lit 0) rfl)) (fun x4 _ => Bool.not (Nat.beq x2 x4)) x1 (fun _ => Bool.true)) x0 (fun _ => Bool.true))
theorem FdstNe_eq : @FdstNe = @Go.Abs.dstNe := by
  delta FdstNe
  kernel_rfl
noncomputable def FinNats : (Nat → ((List Nat) → Bool)) :=
  (fun x0 x1 => @List.rec.{1, 0} _ (fun _ => Bool) Bool.false (fun x2 _ x4 => @Bool.rec.{1} (fun _ => Bool) x4 Bool.true (Nat.beq x0 x2)) x1)
theorem FinNats_eq : @FinNats = @Go.Abs.inNats := by
  funext p0 p1
  refine @List.rec _ (fun x => @FinNats p0 x = @Go.Abs.inNats p0 x) ?_ ?_ p1
  · skip
    refine Eq.trans (show (@FinNats p0 (@List.nil _)) = Bool.false by kernel_rfl) ?_
    kernel_rfl
  · intro f0 f1 h0
    refine Eq.trans (show (@FinNats p0 (@List.cons _ f0 f1)) = (@Bool.rec.{1} (fun _ => Bool) (@FinNats p0 f1) Bool.true (Nat.beq p0 f0)) by kernel_rfl) ?_
    generalize (@FinNats p0 f1) = r0 at h0 ⊢
    subst h0
    kernel_rfl
noncomputable def FdstIn : ((Option Go.Tmp) → ((List Nat) → Bool)) :=
  (fun x0 x1 => @Option.rec.{1, 0} _ (fun _ => Bool) Bool.false (fun x2 => FinNats x2 x1) x0)
theorem FdstIn_eq : @FdstIn = @Go.Abs.dstIn := by
  delta FdstIn
  rw [FinNats_eq]; kernel_rfl
noncomputable def FtmpOf_0 : (Go.Operand → ((List Nat) → (List Nat))) :=
  (fun x0 x1 => @Go.Operand.rec.{1} (fun x2 => (((Nat.hasNotBit (nat_lit 1) (Go.Operand.ctorIdx x2)) → (List Nat)) → (List Nat))) (fun x2 _ => @List.cons _ x2 x1) (fun x2 x3 => x3 (nbq (nat_lit 1) (nat_lit 1) rfl)) (fun x2 x3 => x3 (nbq (nat_lit 1) (nat_lit 2) rfl)) (fun x2 x3 => x3 (nbq (nat_lit 1) (nat_lit 3) rfl)) x0 (fun _ => x1))
noncomputable def FtmpOf : ((List Go.Operand) → (List Nat)) :=
  (fun x0 => @List.rec.{1, 0} _ (fun _ => List Nat) (@List.nil _) (fun x1 _ x3 => FtmpOf_0 x1 x3) x0)
theorem FtmpOf_eq : @FtmpOf = @Go.Abs.tmpOf := by
  funext p0
  refine @List.rec _ (fun x => @FtmpOf x = @Go.Abs.tmpOf x) ?_ ?_ p0
  · skip
    refine Eq.trans (show (@FtmpOf (@List.nil _)) = (@List.nil _) by kernel_rfl) ?_
    kernel_rfl
  · intro f0 f1 h0
    refine Eq.trans (show (@FtmpOf (@List.cons _ f0 f1)) = (FtmpOf_0 f0 (@FtmpOf f1)) by kernel_rfl) ?_
    delta FtmpOf_0
    generalize (@FtmpOf f1) = r0 at h0 ⊢
    subst h0
    kernel_rfl
noncomputable def FreadsOf : (Go.Oper → (List Nat)) :=
  (fun x0 => FtmpOf (@Array.toList Go.Operand (Go.Op.operands (Go.Oper.op x0))))
theorem FreadsOf_eq : @FreadsOf = @Go.Abs.readsOf := by
  delta FreadsOf
  rw [FtmpOf_eq]; kernel_rfl
noncomputable def FpairFine_0 : (Nat → (Go.Oper → (Nat → (Nat → (Go.Oper → (Nat → Bool)))))) :=
  (fun x0 x1 x2 x3 x4 x5 => @Bool.rec.{1} (fun _ => Bool) (Bool.and (Bool.and (Bool.not (FdstIn (Go.Oper.dst x1) (FreadsOf x4))) (Bool.not (FdstIn (Go.Oper.dst x4) (FreadsOf x1)))) (Bool.not (Bool.and (Nat.beq x2 (nat_lit 2)) (Nat.beq x5 (nat_lit 2))))) Bool.true (tbF x3 x0))
noncomputable def FpairFine : (Nat → (Go.Oper → (Nat → (Nat → (Go.Oper → (Nat → Bool)))))) :=
  (fun x0 x1 x2 x3 x4 x5 => @Bool.rec.{1} (fun _ => Bool) Bool.false (FpairFine_0 x0 x1 x2 x3 x4 x5) (FdstNe (Go.Oper.dst x1) (Go.Oper.dst x4)))
theorem FpairFine_eq : @FpairFine = @Go.Abs.pairFine := by
  delta FpairFine
  delta FpairFine_0
  rw [FdstIn_eq, FreadsOf_eq, tbF_eq, FdstNe_eq]; kernel_rfl
noncomputable def FaheadFine_0 : (Nat → (Go.Oper → (Nat → ((Prod Nat (Prod Go.Oper Nat)) → (Bool → Bool))))) :=
  (fun x0 x1 x2 x3 x4 => @Bool.rec.{1} (fun _ => Bool) Bool.false x4 (FpairFine (@Prod.fst Nat (Prod Go.Oper Nat) x3) (@Prod.fst Go.Oper Nat (@Prod.snd Nat (Prod Go.Oper Nat) x3)) (@Prod.snd Go.Oper Nat (@Prod.snd Nat (Prod Go.Oper Nat) x3)) x0 x1 x2))
noncomputable def FaheadFine : (Nat → (Go.Oper → (Nat → ((List (Prod Nat (Prod Go.Oper Nat))) → Bool)))) :=
  (fun x0 x1 x2 x3 => @List.rec.{1, 0} _ (fun _ => Bool) Bool.true (fun x4 _ x6 => FaheadFine_0 x0 x1 x2 x4 x6) x3)
theorem FaheadFine_eq : @FaheadFine = @Go.Abs.aheadFine := by
  funext p0 p1 p2 p3
  refine @List.rec _ (fun x => @FaheadFine p0 p1 p2 x = @Go.Abs.aheadFine p0 p1 p2 x) ?_ ?_ p3
  · skip
    refine Eq.trans (show (@FaheadFine p0 p1 p2 (@List.nil _)) = Bool.true by kernel_rfl) ?_
    kernel_rfl
  · intro f0 f1 h0
    refine Eq.trans (show (@FaheadFine p0 p1 p2 (@List.cons _ f0 f1)) = (FaheadFine_0 p0 p1 p2 f0 (@FaheadFine p0 p1 p2 f1)) by kernel_rfl) ?_
    delta FaheadFine_0
    generalize (@FaheadFine p0 p1 p2 f1) = r0 at h0 ⊢
    subst h0
    rw [FpairFine_eq]
    kernel_rfl
noncomputable def FguardFine : (Nat → ((Option (Prod Nat Bool)) → Bool)) :=
  (fun x0 x1 => @Option.rec.{1, 0} _ (fun _ => Bool) Bool.true (fun x2 => @Prod.rec.{1, 0, 0} _ _ (fun _ => Bool) (fun x3 _ => tbF x0 x3) x2) x1)
theorem FguardFine_eq : @FguardFine = @Go.Abs.guardFine := by
  delta FguardFine
  rw [tbF_eq]; kernel_rfl
noncomputable def FallFine : List (Nat × Go.Oper × Nat) → List (Nat × Go.Oper × Nat × Nat) → Bool :=
  fun acc l => @List.rec.{1, 0} _ (fun _ => List (Nat × Go.Oper × Nat) → Bool) (fun _ => true) (fun x _ ih acc => @Bool.rec.{1} (fun _ => Bool) false (ih ((x.1, x.2.1, x.2.2.1) :: acc)) (@Bool.rec.{1} (fun _ => Bool) false (FguardFine x.2.2.2 (Go.Oper.guard x.2.1)) (FaheadFine x.2.2.2 x.2.1 x.2.2.1 acc))) l acc
theorem FallFine_eq : @FallFine = @allFine := by
  funext acc l
  induction l generalizing acc with
  | nil => kernel_rfl
  | cons x l ih =>
    refine Eq.trans (show FallFine acc (x :: l) = @Bool.rec.{1} (fun _ => Bool) false (FallFine ((x.1, x.2.1, x.2.2.1) :: acc) l) (@Bool.rec.{1} (fun _ => Bool) false (FguardFine x.2.2.2 (Go.Oper.guard x.2.1)) (FaheadFine x.2.2.2 x.2.1 x.2.2.1 acc)) by kernel_rfl) ?_
    rw [ih, FguardFine_eq, FaheadFine_eq]
    kernel_rfl
noncomputable def FcountIn : (Nat → ((List (Prod Nat Nat)) → Nat)) :=
  (fun x0 x1 => @List.rec.{1, 0} _ (fun _ => Nat) (nat_lit 0) (fun x2 _ x4 => @Bool.rec.{1} (fun _ => Nat) x4 (Nat.succ x4) (tbF x0 (@Prod.fst Nat Nat x2))) x1)
theorem FcountIn_eq : @FcountIn = @Go.Abs.countIn := by
  funext p0 p1
  refine @List.rec _ (fun x => @FcountIn p0 x = @Go.Abs.countIn p0 x) ?_ ?_ p1
  · skip
    refine Eq.trans (show (@FcountIn p0 (@List.nil _)) = (nat_lit 0) by kernel_rfl) ?_
    kernel_rfl
  · intro f0 f1 h0
    refine Eq.trans (show (@FcountIn p0 (@List.cons _ f0 f1)) = (@Bool.rec.{1} (fun _ => Nat) (@FcountIn p0 f1) (Nat.succ (@FcountIn p0 f1)) (tbF p0 (@Prod.fst Nat Nat f0))) by kernel_rfl) ?_
    generalize (@FcountIn p0 f1) = r0 at h0 ⊢
    subst h0
    rw [tbF_eq]
    kernel_rfl
noncomputable def FcountNot : (Nat → ((List (Prod Nat Nat)) → Nat)) :=
  (fun x0 x1 => @List.rec.{1, 0} _ (fun _ => Nat) (nat_lit 0) (fun x2 _ x4 => @Bool.rec.{1} (fun _ => Nat) (Nat.succ x4) x4 (tbF (@Prod.snd Nat Nat x2) x0)) x1)
theorem FcountNot_eq : @FcountNot = @Go.Abs.countNot := by
  funext p0 p1
  refine @List.rec _ (fun x => @FcountNot p0 x = @Go.Abs.countNot p0 x) ?_ ?_ p1
  · skip
    refine Eq.trans (show (@FcountNot p0 (@List.nil _)) = (nat_lit 0) by kernel_rfl) ?_
    kernel_rfl
  · intro f0 f1 h0
    refine Eq.trans (show (@FcountNot p0 (@List.cons _ f0 f1)) = (@Bool.rec.{1} (fun _ => Nat) (Nat.succ (@FcountNot p0 f1)) (@FcountNot p0 f1) (tbF (@Prod.snd Nat Nat f0) p0)) by kernel_rfl) ?_
    generalize (@FcountNot p0 f1) = r0 at h0 ⊢
    subst h0
    rw [tbF_eq]
    kernel_rfl
noncomputable def FitemsOf_0 : ((List (Prod Nat Nat)) → ((Prod Nat (Prod Go.Oper (Prod Nat Nat))) → ((List PItem) → (List PItem)))) :=
  (fun x0 x1 x2 => @List.cons _ (PItem.mk (@Prod.fst Go.Oper (Prod Nat Nat) (@Prod.snd Nat (Prod Go.Oper (Prod Nat Nat)) x1)) (@Prod.fst Nat Nat (@Prod.snd Go.Oper (Prod Nat Nat) (@Prod.snd Nat (Prod Go.Oper (Prod Nat Nat)) x1))) (FcountIn (@Prod.snd Nat Nat (@Prod.snd Go.Oper (Prod Nat Nat) (@Prod.snd Nat (Prod Go.Oper (Prod Nat Nat)) x1))) x0) (FcountNot (@Prod.fst Nat (Prod Go.Oper (Prod Nat Nat)) x1) x0)) x2)
noncomputable def FitemsOf : ((List (Prod Nat Nat)) → ((List (Prod Nat (Prod Go.Oper (Prod Nat Nat)))) → (List PItem))) :=
  (fun x0 x1 => @List.rec.{1, 0} _ (fun _ => List PItem) (@List.nil _) (fun x2 _ x4 => FitemsOf_0 x0 x2 x4) x1)
theorem FitemsOf_eq : @FitemsOf = @Go.Abs.itemsOf := by
  funext p0 p1
  refine @List.rec _ (fun x => @FitemsOf p0 x = @Go.Abs.itemsOf p0 x) ?_ ?_ p1
  · skip
    refine Eq.trans (show (@FitemsOf p0 (@List.nil _)) = (@List.nil _) by kernel_rfl) ?_
    kernel_rfl
  · intro f0 f1 h0
    refine Eq.trans (show (@FitemsOf p0 (@List.cons _ f0 f1)) = (FitemsOf_0 p0 f0 (@FitemsOf p0 f1)) by kernel_rfl) ?_
    delta FitemsOf_0
    generalize (@FitemsOf p0 f1) = r0 at h0 ⊢
    subst h0
    rw [FcountIn_eq, FcountNot_eq]
    kernel_rfl
noncomputable def FanchorsOf_0 : ((Prod Nat (Prod Go.Oper (Prod Nat Nat))) → ((List (Prod Nat Nat)) → (List (Prod Nat Nat)))) :=
  (fun x0 x1 => @List.cons _ (@Prod.mk _ _ (@Prod.fst Nat (Prod Go.Oper (Prod Nat Nat)) x0) (@Prod.snd Nat Nat (@Prod.snd Go.Oper (Prod Nat Nat) (@Prod.snd Nat (Prod Go.Oper (Prod Nat Nat)) x0)))) x1)
noncomputable def FanchorsOf_1 : ((Prod Nat (Prod Go.Oper (Prod Nat Nat))) → ((List (Prod Nat Nat)) → (List (Prod Nat Nat)))) :=
  (fun x0 x1 => @Bool.rec.{1} (fun _ => List (Prod Nat Nat)) x1 (FanchorsOf_0 x0 x1) (Nat.beq (@Prod.fst Nat Nat (@Prod.snd Go.Oper (Prod Nat Nat) (@Prod.snd Nat (Prod Go.Oper (Prod Nat Nat)) x0))) (nat_lit 2)))
noncomputable def FanchorsOf : ((List (Prod Nat (Prod Go.Oper (Prod Nat Nat)))) → (List (Prod Nat Nat))) :=
  (fun x0 => @List.rec.{1, 0} _ (fun _ => List (Prod Nat Nat)) (@List.nil _) (fun x1 _ x3 => FanchorsOf_1 x1 x3) x0)
theorem FanchorsOf_eq : @FanchorsOf = @Go.Abs.anchorsOf := by
  funext p0
  refine @List.rec _ (fun x => @FanchorsOf x = @Go.Abs.anchorsOf x) ?_ ?_ p0
  · skip
    refine Eq.trans (show (@FanchorsOf (@List.nil _)) = (@List.nil _) by kernel_rfl) ?_
    kernel_rfl
  · intro f0 f1 h0
    refine Eq.trans (show (@FanchorsOf (@List.cons _ f0 f1)) = (FanchorsOf_1 f0 (@FanchorsOf f1)) by kernel_rfl) ?_
    delta FanchorsOf_1
    delta FanchorsOf_0
    generalize (@FanchorsOf f1) = r0 at h0 ⊢
    subst h0
    kernel_rfl
noncomputable def Fplan_0 : (AProg → ((Array Go.Oper) → ((List Nat) → (Option (List PItem))))) :=
  (fun x0 x1 x2 => (let x3 : (List (Prod Nat (Prod Go.Oper (Prod Nat Nat)))) := (Fnumbered (nat_lit 0) (@Array.toList Go.Oper x1) (Fkinds x0 (@Array.toList Go.Oper x1)) x2); (@Bool.rec.{1} (fun _ => Option (List PItem)) (@Option.none _) (@Option.some _ (FitemsOf (FanchorsOf x3) x3)) (FallFine (@List.nil _) x3))))
noncomputable def Fplan : (AProg → ((Array Go.Oper) → (Option (List PItem)))) :=
  (fun x0 x1 => @Option.rec.{1, 0} _ (fun _ => Option (List PItem)) (@Option.none _) (fun x2 => Fplan_0 x0 x1 x2) (FallBits (@Array.toList Go.Oper x1) (@List.nil _)))
theorem Fplan_eq : @Fplan = @Go.Abs.plan := by
  delta Fplan
  delta Fplan_0
  rw [Fnumbered_eq, Fkinds_eq, FitemsOf_eq, FanchorsOf_eq, FallFine_eq, FallBits_eq]; kernel_rfl
noncomputable def FagainAt : (AProg → ((List (PTree AObj)) → (Again → (Heap → Bool)))) :=
  (fun x0 x1 x2 x3 => @Option.rec.{1, 0} _ (fun _ => Bool) Bool.false (fun x4 => beqV (Again.v x2) x4) (Fquiet x0 x1 (Again.e x2) x3 (Again.op x2)))
theorem FagainAt_eq : @FagainAt = @Go.Abs.againAt := by
  delta FagainAt
  rw [Fquiet_eq]; kernel_rfl
noncomputable def FagainAll : AProg → List (PTree AObj) → Again → Nat → List Heap → Bool :=
  fun A L a k hs => @List.rec.{1, 0} _ (fun _ => Nat → Bool) (fun _ => true) (fun h _ ih k => @Bool.rec.{1} (fun _ => Bool) false (ih (Nat.pred k)) (@Bool.rec.{1} (fun _ => Bool) true (@Bool.rec.{1} (fun _ => Bool) true (FagainAt A L a h) (Nat.ble k a.2)) (Nat.ble a.1 k))) hs k
theorem FagainAll_eq : @FagainAll = @againAll := by
  funext A L a k hs
  induction hs generalizing k with
  | nil => kernel_rfl
  | cons h hs ih =>
    refine Eq.trans (show FagainAll A L a k (h :: hs) = @Bool.rec.{1} (fun _ => Bool) false (FagainAll A L a (Nat.pred k) hs) (@Bool.rec.{1} (fun _ => Bool) true (@Bool.rec.{1} (fun _ => Bool) true (FagainAt A L a h) (Nat.ble k a.2)) (Nat.ble a.1 k)) by kernel_rfl) ?_
    rw [ih, FagainAt_eq]
    kernel_rfl
noncomputable def Fagains : (AProg → ((List (PTree AObj)) → (Nat → ((List Heap) → ((List Again) → Bool))))) :=
  (fun x0 x1 x2 x3 x4 => @List.rec.{1, 0} _ (fun _ => Bool) Bool.true (fun x5 _ x7 => @Bool.rec.{1} (fun _ => Bool) Bool.false x7 (FagainAll x0 x1 x5 x2 x3)) x4)
theorem Fagains_eq : @Fagains = @Go.Abs.agains := by
  funext p0 p1 p2 p3 p4
  refine @List.rec _ (fun x => @Fagains p0 p1 p2 p3 x = @Go.Abs.agains p0 p1 p2 p3 x) ?_ ?_ p4
  · skip
    refine Eq.trans (show (@Fagains p0 p1 p2 p3 (@List.nil _)) = Bool.true by kernel_rfl) ?_
    kernel_rfl
  · intro f0 f1 h0
    refine Eq.trans (show (@Fagains p0 p1 p2 p3 (@List.cons _ f0 f1)) = (@Bool.rec.{1} (fun _ => Bool) Bool.false (@Fagains p0 p1 p2 p3 f1) (FagainAll p0 p1 f0 p2 p3)) by kernel_rfl) ?_
    generalize (@Fagains p0 p1 p2 p3 f1) = r0 at h0 ⊢
    subst h0
    rw [FagainAll_eq]
    kernel_rfl
noncomputable def FadoptAll : ((List Pend) → (Heap → Heap)) :=
  (fun x0 => @List.rec.{1, 0} _ (fun _ => (Heap → Heap)) (fun x1 => x1) (fun x1 _ x3 x4 => FHeap_set (x3 x4) (Pend.id x1) (Pend.o x1)) x0)
theorem FadoptAll_eq : @FadoptAll = @Go.Abs.adoptAll := by
  funext p0
  refine @List.rec _ (fun x => @FadoptAll x = @Go.Abs.adoptAll x) ?_ ?_ p0
  · skip
    refine Eq.trans (show (@FadoptAll (@List.nil _)) = (fun x0 => x0) by kernel_rfl) ?_
    kernel_rfl
  · intro f0 f1 h0
    refine Eq.trans (show (@FadoptAll (@List.cons _ f0 f1)) = (fun x0 => FHeap_set ((@FadoptAll f1) x0) (Pend.id f0) (Pend.o f0)) by kernel_rfl) ?_
    generalize (@FadoptAll f1) = r0 at h0 ⊢
    subst h0
    rw [FHeap_set_eq]
    kernel_rfl
noncomputable def Fadopt : (Nat → ((List Pend) → (Heap → Heap))) :=
  (fun x0 x1 => @List.rec.{1, 0} _ (fun _ => (Heap → Heap)) (fun x2 => x2) (fun x2 _ x4 x5 => @Bool.rec.{1} (fun _ => Heap) (x4 x5) (FHeap_set (x4 x5) (Pend.id x2) (Pend.o x2)) (Nat.beq (Pend.hi x2) x0)) x1)
theorem Fadopt_eq : @Fadopt = @Go.Abs.adopt := by
  funext p0 p1
  refine @List.rec _ (fun x => @Fadopt p0 x = @Go.Abs.adopt p0 x) ?_ ?_ p1
  · skip
    refine Eq.trans (show (@Fadopt p0 (@List.nil _)) = (fun x0 => x0) by kernel_rfl) ?_
    kernel_rfl
  · intro f0 f1 h0
    refine Eq.trans (show (@Fadopt p0 (@List.cons _ f0 f1)) = (fun x0 => @Bool.rec.{1} (fun _ => Heap) ((@Fadopt p0 f1) x0) (FHeap_set ((@Fadopt p0 f1) x0) (Pend.id f0) (Pend.o f0)) (Nat.beq (Pend.hi f0) p0)) by kernel_rfl) ?_
    generalize (@Fadopt p0 f1) = r0 at h0 ⊢
    subst h0
    rw [FHeap_set_eq]
    kernel_rfl
noncomputable def Funadopted : (Nat → ((List Pend) → (List Pend))) :=
  (fun x0 x1 => @List.rec.{1, 0} _ (fun _ => List Pend) (@List.nil _) (fun x2 _ x4 => @Bool.rec.{1} (fun _ => List Pend) (@List.cons _ x2 x4) x4 (Nat.beq (Pend.hi x2) x0)) x1)
theorem Funadopted_eq : @Funadopted = @Go.Abs.unadopted := by
  funext p0 p1
  refine @List.rec _ (fun x => @Funadopted p0 x = @Go.Abs.unadopted p0 x) ?_ ?_ p1
  · skip
    refine Eq.trans (show (@Funadopted p0 (@List.nil _)) = (@List.nil _) by kernel_rfl) ?_
    kernel_rfl
  · intro f0 f1 h0
    refine Eq.trans (show (@Funadopted p0 (@List.cons _ f0 f1)) = (@Bool.rec.{1} (fun _ => List Pend) (@List.cons _ f0 (@Funadopted p0 f1)) (@Funadopted p0 f1) (Nat.beq (Pend.hi f0) p0)) by kernel_rfl) ?_
    generalize (@Funadopted p0 f1) = r0 at h0 ⊢
    subst h0
    kernel_rfl
noncomputable def FallBehind : (Nat → ((List PItem) → Bool)) :=
  (fun x0 x1 => @List.rec.{1, 0} _ (fun _ => Bool) Bool.true (fun x2 _ x4 => @Bool.rec.{1} (fun _ => Bool) Bool.false x4 (Nat.ble x0 (PItem.lo x2))) x1)
theorem FallBehind_eq : @FallBehind = @Go.Abs.allBehind := by
  funext p0 p1
  refine @List.rec _ (fun x => @FallBehind p0 x = @Go.Abs.allBehind p0 x) ?_ ?_ p1
  · skip
    refine Eq.trans (show (@FallBehind p0 (@List.nil _)) = Bool.true by kernel_rfl) ?_
    kernel_rfl
  · intro f0 f1 h0
    refine Eq.trans (show (@FallBehind p0 (@List.cons _ f0 f1)) = (@Bool.rec.{1} (fun _ => Bool) Bool.false (@FallBehind p0 f1) (Nat.ble p0 (PItem.lo f0))) by kernel_rfl) ?_
    generalize (@FallBehind p0 f1) = r0 at h0 ⊢
    subst h0
    kernel_rfl
noncomputable def Fdgo_0 : (PItem → ((DSt → (Option DOut)) → (DSt → (Env → (Option DOut))))) :=
  (fun x0 x1 x2 x3 => @dite (Option DOut) (@Eq Nat x0.2 (nat_lit 0)) (Nat.decEq x0.2 (nat_lit 0)) (@Eq.ndrec_symm Nat (nat_lit 0) (fun _ => Option DOut) (x1 (DSt.mk x2.1 x3 x2.3 x2.4 x2.5 x2.6 x2.7)) x0.2) (fun _ => @dite (Option DOut) (@Eq Nat x0.2 (nat_lit 1)) (Nat.decEq x0.2 (nat_lit 1)) (@Eq.ndrec_symm Nat (nat_lit 1) (fun _ => Option DOut) (x1 (DSt.mk x2.1 x3 x2.3 x2.4 x2.5 x2.6 x2.7)) x0.2) (fun _ => (let x6 : Heap := (Fadopt x2.1 x2.6 x2.3); (x1 (DSt.mk (Nat.succ x2.1) x3 x6 (@List.cons _ x6 x2.4) x2.5 (Funadopted x2.1 x2.6) x2.7))))))
noncomputable def Fdgo_1 : (PItem → ((DSt → (Option DOut)) → (DSt → (AVal → (Env → (Option DOut)))))) :=
  (fun x0 x1 x2 x3 x4 => x1 (DSt.mk x2.1 x4 x2.3 x2.4 (@Bool.rec.{1} (fun _ => List Again) (@List.cons _ (Again.mk x0.3 x0.4 x2.2 (Go.Oper.op x0.1) x3) x2.5) x2.5 (Nat.beq x0.3 x0.4)) x2.6 x2.7))
noncomputable def Fdgo_2 : (Nat → (PItem → ((DSt → (Option DOut)) → (DSt → (AObj → (Mk → (Option DOut))))))) :=
  (fun x0 x1 x2 x3 x4 x5 => @Option.rec.{1, 0} _ (fun _ => Option DOut) (@Option.none _) (fun x6 => x2 (DSt.mk x3.1 x6 x3.3 x3.4 x3.5 (@List.cons _ (Pend.mk x3.7 x4 x1.4) x3.6) (FPos_inc x3.7))) (FsetDst x0 (Go.Oper.dst x1.1) (FMk_val x5 x3.7) x3.2))
noncomputable def Fdgo_3 : ((AState → (Option (Prod AEnd Heap))) → (AProg → ((List (PTree AObj)) → (Nat → (PItem → ((List PItem) → ((DSt → (Option DOut)) → (DSt → (Option DOut))))))))) :=
  (fun x0 x1 x2 x3 x4 x5 x6 x7 => @dite (Option DOut) (@Eq Nat x4.2 (nat_lit 0)) (Nat.decEq x4.2 (nat_lit 0)) (@Eq.ndrec_symm Nat (nat_lit 0) (fun _ => Option DOut) (@Option.rec.{1, 0} _ (fun _ => Option DOut) (@Option.none _) (fun x8 => @Option.rec.{1, 0} _ (fun _ => Option DOut) (@Option.none _) (fun x9 => Fdgo_1 x4 x6 x7 x8 x9) (FsetDst x3 (Go.Oper.dst x4.1) x8 x7.2)) (Fquiet x1 x2 x7.2 x7.3 (Go.Oper.op x4.1))) x4.2) (fun _ => @dite (Option DOut) (@Eq Nat x4.2 (nat_lit 1)) (Nat.decEq x4.2 (nat_lit 1)) (@Eq.ndrec_symm Nat (nat_lit 1) (fun _ => Option DOut) (@Option.rec.{1, 0} _ (fun _ => Option DOut) (@Option.none _) (fun x9 => @Prod.rec.{1, 0, 0} _ _ (fun _ => Option DOut) (fun x10 x11 => Fdgo_2 x3 x4 x6 x7 x10 x11) x9) (Ffresh x1 x7.2 (Go.Oper.op x4.1))) x4.2) (fun _ => (let x10 : Heap := (Fadopt x7.1 x7.6 x7.3); (@ARes.rec.{1} (fun x11 => (((Nat.hasNotBit (nat_lit 70) (ARes.ctorIdx x11)) → (Option DOut)) → (Option DOut))) (fun x11 => x11 (nbq (nat_lit 70) (nat_lit 0) rfl)) (fun x11 x12 _ => @Option.rec.{1, 0} _ (fun _ => Option DOut) (@Option.none _) (fun x14 => x6 (DSt.mk (Nat.succ x7.1) x14 x12 (@List.cons _ x12 x7.4) x7.5 (Funadopted x7.1 x7.6) x7.7)) (FsetDst x3 (Go.Oper.dst x4.1) x11 x7.2)) (fun x11 x12 _ => @Option.rec.{1, 0} _ (fun _ => Option DOut) (@Option.none _) (fun x14 => @Option.rec.{1, 0} _ (fun _ => Option DOut) (@Option.none _) (fun x15 => @Prod.rec.{1, 0, 0} _ _ (fun _ => Option DOut) (fun x16 x17 => @AEnd.rec.{1} (fun _ => Option DOut) (fun x18 => @Option.rec.{1, 0} _ (fun _ => Option DOut) (@Option.none _) (fun x19 => x6 (DSt.mk (Nat.succ x7.1) x19 x17 (@List.cons _ x17 x7.4) x7.5 (Funadopted x7.1 x7.6) x7.7)) (FsetDst x3 (Go.Oper.dst x4.1) x18 x7.2)) (fun x18 => @Bool.rec.{1} (fun _ => Option DOut) (@Option.none _) (@Option.some _ (DOut.pan x18 x17)) (Bool.and (FallBehind (Nat.succ x7.1) x5) (Fagains x1 x2 x7.1 x7.4 x7.5))) x16) x15) (x0 (AState.mk x14 (@List.nil _) x10))) (FenterA x1 x11 x12 Bool.false)) (fun x11 x12 x13 => x13 (nbq (nat_lit 70) (nat_lit 3) rfl)) (fun x11 x12 => x12 (nbq (nat_lit 70) (nat_lit 4) rfl)) (fun x11 => x11 (nbq (nat_lit 70) (nat_lit 5) rfl)) (fun x11 _ => @Bool.rec.{1} (fun _ => Option DOut) (@Option.none _) (@Option.some _ (DOut.pan (@List.cons _ (@Prod.mk _ _ x11 Bool.false) (@List.nil _)) x10)) (Bool.and (FallBehind (Nat.succ x7.1) x5) (Fagains x1 x2 x7.1 x7.4 x7.5))) (fun x11 x12 x13 x14 x15 x16 => x16 (nbq (nat_lit 70) (nat_lit 7) rfl)) (Fwrites x1 x2 x7.2 x10 (Go.Oper.op x4.1)) (fun _ => @Option.none _))))))
noncomputable def Fdgo_4 : ((AState → (Option (Prod AEnd Heap))) → (AProg → ((List (PTree AObj)) → (Nat → (PItem → ((List PItem) → ((DSt → (Option DOut)) → (DSt → (Bool → (Option DOut)))))))))) :=
  (fun x0 x1 x2 x3 x4 x5 x6 x7 x8 => @Bool.rec.{1} (fun _ => Option DOut) (@Option.rec.{1, 0} _ (fun _ => Option DOut) (@Option.none _) (fun x9 => Fdgo_0 x4 x6 x7 x9) (FsetDst x3 (Go.Oper.dst x4.1) FundefA x7.2)) (Fdgo_3 x0 x1 x2 x3 x4 x5 x6 x7) x8)
noncomputable def Fdgo : ((AState → (Option (Prod AEnd Heap))) → (AProg → ((List (PTree AObj)) → (Nat → ((Array Go.Oper) → ((List PItem) → (DSt → (Option DOut)))))))) :=
  (fun x0 x1 x2 x3 x4 x5 => @List.rec.{1, 0} _ (fun _ => (DSt → (Option DOut))) (fun x6 => @Bool.rec.{1} (fun _ => Option DOut) (@Option.none _) (@Option.some _ (DOut.done x6.2 (FadoptAll x6.6 x6.3))) (Fagains x1 x2 x6.1 x6.4 x6.5)) (fun x6 x7 x8 x9 => @Option.rec.{1, 0} _ (fun _ => Option DOut) (@Option.none _) (fun x10 => Fdgo_4 x0 x1 x2 x3 x6 x7 x8 x9 x10) (Fawanted (Go.Oper.guard x6.1) x4 x9.2)) x5)
theorem Fdgo_eq : @Fdgo = @Go.Abs.dgo := by
  funext p0 p1 p2 p3 p4 p5
  refine @List.rec _ (fun x => @Fdgo p0 p1 p2 p3 p4 x = @Go.Abs.dgo p0 p1 p2 p3 p4 x) ?_ ?_ p5
  · skip
    refine Eq.trans (show (@Fdgo p0 p1 p2 p3 p4 (@List.nil _)) = (fun x0 => @Bool.rec.{1} (fun _ => Option DOut) (@Option.none _) (@Option.some _ (DOut.done x0.2 (FadoptAll x0.6 x0.3))) (Fagains p1 p2 x0.1 x0.4 x0.5)) by kernel_rfl) ?_
    rw [FadoptAll_eq, Fagains_eq]
    kernel_rfl
  · intro f0 f1 h0
    refine Eq.trans (show (@Fdgo p0 p1 p2 p3 p4 (@List.cons _ f0 f1)) = (fun x0 => @Option.rec.{1, 0} _ (fun _ => Option DOut) (@Option.none _) (fun x1 => Fdgo_4 p0 p1 p2 p3 f0 f1 (@Fdgo p0 p1 p2 p3 p4 f1) x0 x1) (Fawanted (Go.Oper.guard f0.1) p4 x0.2)) by kernel_rfl) ?_
    delta Fdgo_4
    delta Fdgo_3
    delta Fdgo_2
    delta Fdgo_1
    delta Fdgo_0
    generalize (@Fdgo p0 p1 p2 p3 p4 f1) = r0 at h0 ⊢
    subst h0
    rw [Fadopt_eq, Funadopted_eq, FsetDst_eq, FundefA_eq, Fquiet_eq, FPos_inc_eq, FMk_val_eq, Ffresh_eq, FallBehind_eq, Fagains_eq, FenterA_eq, Fwrites_eq, Fawanted_eq]
    kernel_rfl
noncomputable def Fincs : (Nat → (Pos → Pos)) :=
  (fun x0 => @Nat.rec.{1} (fun _ => (Pos → Pos)) (fun x1 => x1) (fun _ x2 x3 => x2 (FPos_inc x3)) x0)
theorem Fincs_eq : @Fincs = @Go.Abs.incs := by
  funext p0
  refine @Nat.rec  (fun x => @Fincs x = @Go.Abs.incs x) ?_ ?_ p0
  · skip
    refine Eq.trans (show (@Fincs (@Nat.zero )) = (fun x0 => x0) by kernel_rfl) ?_
    kernel_rfl
  · intro f0 h0
    refine Eq.trans (show (@Fincs (@Nat.succ f0)) = (fun x0 => (@Fincs f0) (FPos_inc x0)) by kernel_rfl) ?_
    generalize (@Fincs f0) = r0 at h0 ⊢
    subst h0
    rw [FPos_inc_eq]
    kernel_rfl
noncomputable def FcountFresh : ((List PItem) → Nat) :=
  (fun x0 => @List.rec.{1, 0} _ (fun _ => Nat) (nat_lit 0) (fun x1 _ x3 => @Bool.rec.{1} (fun _ => Nat) x3 (Nat.succ x3) (Nat.beq (PItem.kind x1) (nat_lit 1))) x0)
theorem FcountFresh_eq : @FcountFresh = @Go.Abs.countFresh := by
  funext p0
  refine @List.rec _ (fun x => @FcountFresh x = @Go.Abs.countFresh x) ?_ ?_ p0
  · skip
    refine Eq.trans (show (@FcountFresh (@List.nil _)) = (nat_lit 0) by kernel_rfl) ?_
    kernel_rfl
  · intro f0 f1 h0
    refine Eq.trans (show (@FcountFresh (@List.cons _ f0 f1)) = (@Bool.rec.{1} (fun _ => Nat) (@FcountFresh f1) (Nat.succ (@FcountFresh f1)) (Nat.beq (PItem.kind f0) (nat_lit 1))) by kernel_rfl) ?_
    generalize (@FcountFresh f1) = r0 at h0 ⊢
    subst h0
    kernel_rfl
noncomputable def FdrawRun_0 : ((AState → (Option (Prod AEnd Heap))) → (AProg → ((List (PTree AObj)) → (Nat → ((Array Go.Oper) → ((PTree AVal) → ((List PItem) → ((PTree AObj) → (Pos → (Option DOut)))))))))) :=
  (fun x0 x1 x2 x3 x4 x5 x6 x7 x8 => Fdgo x0 x1 x2 x3 x4 x6 (DSt.mk (nat_lit 0) (Env.mk (@List.nil _) x5) (Heap.mk x7 (Fincs (FcountFresh x6) x8)) (@List.cons _ (Heap.mk x7 (Fincs (FcountFresh x6) x8)) (@List.nil _)) (@List.nil _) (@List.nil _) x8))
noncomputable def FdrawRun : ((AState → (Option (Prod AEnd Heap))) → (AProg → ((List (PTree AObj)) → (Nat → ((Array Go.Oper) → ((PTree AVal) → (Heap → (Option DOut)))))))) :=
  (fun x0 x1 x2 x3 x4 x5 x6 => @Option.rec.{1, 0} _ (fun _ => Option DOut) (@Option.none _) (fun x7 => @Heap.rec.{1} (fun _ => Option DOut) (fun x8 x9 => FdrawRun_0 x0 x1 x2 x3 x4 x5 x7 x8 x9) x6) (Fplan x1 x4))
theorem FdrawRun_eq : @FdrawRun = @Go.Abs.drawRun := by
  delta FdrawRun
  delta FdrawRun_0
  rw [Fdgo_eq, Fincs_eq, FcountFresh_eq, Fplan_eq]; kernel_rfl
noncomputable def FdelTmp : (Pos → ((PTree AVal) → (PTree AVal))) :=
  (fun x0 => @Pos.rec.{1} (fun _ => ((PTree AVal) → (PTree AVal))) (fun x1 => @PTree.rec.{1} _ (fun _ => PTree AVal) (@PTree.leaf _) (fun x2 _ x4 _ _ => @PTree.node _ x2 (@Option.none _) x4) x1) (fun _ x2 x3 => @PTree.rec.{1} _ (fun _ => PTree AVal) (@PTree.leaf _) (fun x4 x5 x6 _ _ => @PTree.node _ (x2 x4) x5 x6) x3) (fun _ x2 x3 => @PTree.rec.{1} _ (fun _ => PTree AVal) (@PTree.leaf _) (fun x4 x5 x6 _ _ => @PTree.node _ x4 x5 (x2 x6)) x3) x0)
theorem FdelTmp_eq : @FdelTmp = @Go.Abs.delTmp := by
  funext p0
  refine @Go.Abs.Pos.rec  (fun x => @FdelTmp x = @Go.Abs.delTmp x) ?_ ?_ ?_ p0
  · skip
    refine Eq.trans (show (@FdelTmp (@Go.Abs.Pos.H )) = (fun x0 => @PTree.rec.{1} _ (fun _ => PTree AVal) (@PTree.leaf _) (fun x1 _ x3 _ _ => @PTree.node _ x1 (@Option.none _) x3) x0) by kernel_rfl) ?_
    kernel_rfl
  · intro f0 h0
    refine Eq.trans (show (@FdelTmp (@Go.Abs.Pos.O f0)) = (fun x0 => @PTree.rec.{1} _ (fun _ => PTree AVal) (@PTree.leaf _) (fun x1 x2 x3 _ _ => @PTree.node _ ((@FdelTmp f0) x1) x2 x3) x0) by kernel_rfl) ?_
    generalize (@FdelTmp f0) = r0 at h0 ⊢
    subst h0
    kernel_rfl
  · intro f0 h0
    refine Eq.trans (show (@FdelTmp (@Go.Abs.Pos.I f0)) = (fun x0 => @PTree.rec.{1} _ (fun _ => PTree AVal) (@PTree.leaf _) (fun x1 x2 x3 _ _ => @PTree.node _ x1 x2 ((@FdelTmp f0) x3)) x0) by kernel_rfl) ?_
    generalize (@FdelTmp f0) = r0 at h0 ⊢
    subst h0
    kernel_rfl
noncomputable def FdelDsts : ((List Go.Oper) → ((PTree AVal) → (PTree AVal))) :=
  (fun x0 => @List.rec.{1, 0} _ (fun _ => ((PTree AVal) → (PTree AVal))) (fun x1 => x1) (fun x1 _ x3 x4 => @Option.rec.{1, 0} _ (fun _ => PTree AVal) (x3 x4) (fun x5 => FdelTmp (FposOf x5) (x3 x4)) (Go.Oper.dst x1)) x0)
theorem FdelDsts_eq : @FdelDsts = @Go.Abs.delDsts := by
  funext p0
  refine @List.rec _ (fun x => @FdelDsts x = @Go.Abs.delDsts x) ?_ ?_ p0
  · skip
    refine Eq.trans (show (@FdelDsts (@List.nil _)) = (fun x0 => x0) by kernel_rfl) ?_
    kernel_rfl
  · intro f0 f1 h0
    refine Eq.trans (show (@FdelDsts (@List.cons _ f0 f1)) = (fun x0 => @Option.rec.{1, 0} _ (fun _ => PTree AVal) ((@FdelDsts f1) x0) (fun x1 => FdelTmp (FposOf x1) ((@FdelDsts f1) x0)) (Go.Oper.dst f0)) by kernel_rfl) ?_
    generalize (@FdelDsts f1) = r0 at h0 ⊢
    subst h0
    rw [FdelTmp_eq, FposOf_eq]
    kernel_rfl
noncomputable def Frun_0 : ((AProg → ((List (PTree AObj)) → (AState → (Option (Prod AEnd Heap))))) → (AProg → ((List (PTree AObj)) → (AFrame → ((List AFrame) → ((PTree AObj) → (AVal → ((PTree AObj) → (Pos → (Option (Prod AEnd Heap))))))))))) :=
  (fun x0 x1 x2 x3 x4 x5 x6 x7 x8 => @Option.rec.{1, 0} _ (fun _ => Option (Prod AEnd Heap)) (@Option.none _) (fun x9 => x0 x1 x2 (AState.mk x9 x4 (Heap.mk (FPTree_union AObj x7 x5) x8))) (FfinishA x3 x6))
noncomputable def Frun_1 : ((AProg → ((List (PTree AObj)) → (AState → (Option (Prod AEnd Heap))))) → (AProg → ((List (PTree AObj)) → (AFrame → ((List AFrame) → ((PTree AObj) → (AEnd → (Heap → (Option (Prod AEnd Heap)))))))))) :=
  (fun x0 x1 x2 x3 x4 x5 x6 x7 => @AEnd.rec.{1} (fun _ => Option (Prod AEnd Heap)) (fun x8 => @Heap.rec.{1} (fun _ => Option (Prod AEnd Heap)) (fun x9 x10 => Frun_0 x0 x1 x2 x3 x4 x5 x8 x9 x10) x7) (fun x8 => @Heap.rec.{1} (fun _ => Option (Prod AEnd Heap)) (fun x9 x10 => x0 x1 x2 (AState.mk (FraiseA x3 x8) x4 (Heap.mk (FPTree_union AObj x9 x5) x10))) x7) x6)
noncomputable def Frun_2 : ((AProg → ((List (PTree AObj)) → (AState → (Option (Prod AEnd Heap))))) → (AProg → ((List (PTree AObj)) → (AFrame → ((List AFrame) → ((PTree AObj) → (Pos → (AFrame → (Option (Prod AEnd Heap)))))))))) :=
  (fun x0 x1 x2 x3 x4 x5 x6 x7 => @Option.rec.{1, 0} _ (fun _ => Option (Prod AEnd Heap)) (@Option.none _) (fun x8 => @Prod.rec.{1, 0, 0} _ _ (fun _ => Option (Prod AEnd Heap)) (fun x9 x10 => Frun_1 x0 x1 x2 x3 x4 x5 x9 x10) x8) (x0 x1 (@List.cons _ x5 x2) (AState.mk x7 (@List.nil _) (Heap.mk (@PTree.leaf _) x6))))
noncomputable def Frun_3 : ((AProg → ((List (PTree AObj)) → (AState → (Option (Prod AEnd Heap))))) → (AProg → ((List (PTree AObj)) → (Go.FuncId → ((List AVal) → (AFrame → ((List AFrame) → (Heap → (Option (Prod AEnd Heap)))))))))) :=
  (fun x0 x1 x2 x3 x4 x5 x6 x7 => @Heap.rec.{1} (fun _ => Option (Prod AEnd Heap)) (fun x8 x9 => @Option.rec.{1, 0} _ (fun _ => Option (Prod AEnd Heap)) (@Option.none _) (fun x10 => Frun_2 x0 x1 x2 x5 x6 x8 x9 x10) (FenterA x1 x3 x4 Bool.false)) x7)
noncomputable def Frun_4 : ((AProg → ((List (PTree AObj)) → (AState → (Option (Prod AEnd Heap))))) → (AProg → ((List (PTree AObj)) → ((Array Go.Oper) → ((List AFrame) → (FInfo → (Env → ((List ADef) → (AMode → ((List (Prod AVal Bool)) → (Heap → (Option (Prod AEnd Heap))))))))))))) :=
  (fun x0 x1 x2 x3 x4 x5 x6 x7 x8 x9 x10 => x0 x1 x2 (AState.mk (FraiseA (AFrame.mk x5 (Env.mk (@List.nil _) (FdelDsts (@Array.toList Go.Oper x3) (Fflush (FInfo.msk x5) (Env.rc x6) (Env.tm x6)))) (@List.cons _ AItem.lost (@List.nil _)) x7 x8) x9) x4 x10))
noncomputable def Frun_5 : ((AProg → ((List (PTree AObj)) → (AState → (Option (Prod AEnd Heap))))) → (AProg → ((List (PTree AObj)) → ((Array Go.Oper) → ((List AItem) → ((List AFrame) → (FInfo → (Env → ((List ADef) → (AMode → (DOut → (Option (Prod AEnd Heap))))))))))))) :=
  (fun x0 x1 x2 x3 x4 x5 x6 x7 x8 x9 x10 => @DOut.rec.{1} (fun _ => Option (Prod AEnd Heap)) (fun x11 x12 => x0 x1 x2 (AState.mk (AFrame.mk x6 x11 x4 x8 x9) x5 x12)) (fun x11 x12 => Frun_4 x0 x1 x2 x3 x5 x6 x7 x8 x9 x11 x12) x10)
noncomputable def Frun_6 : ((AProg → ((List (PTree AObj)) → (AState → (Option (Prod AEnd Heap))))) → (AProg → ((List (PTree AObj)) → ((Array Go.Oper) → ((List AItem) → ((List AFrame) → (Heap → (FInfo → (Env → ((List ADef) → (AMode → (Option (Prod AEnd Heap))))))))))))) :=
  (fun x0 x1 x2 x3 x4 x5 x6 x7 x8 x9 x10 => @Option.rec.{1, 0} _ (fun _ => Option (Prod AEnd Heap)) (@Option.none _) (fun x11 => Frun_5 x0 x1 x2 x3 x4 x5 x7 x8 x9 x10 x11) (FdrawRun (x0 x1 x2) x1 x2 (FInfo.nt x7) x3 (Fflush (FInfo.msk x7) (Env.rc x8) (Env.tm x8)) x6))
noncomputable def Frun_7 : ((AProg → ((List (PTree AObj)) → (AState → (Option (Prod AEnd Heap))))) → (AProg → ((List (PTree AObj)) → ((Array Go.Oper) → ((List AItem) → (AState → (Option (Prod AEnd Heap)))))))) :=
  (fun x0 x1 x2 x3 x4 x5 => @AState.rec.{1} (fun _ => Option (Prod AEnd Heap)) (fun x6 x7 x8 => @AFrame.rec.{1} (fun _ => Option (Prod AEnd Heap)) (fun x9 x10 _ x12 x13 => Frun_6 x0 x1 x2 x3 x4 x7 x8 x9 x10 x12 x13) x6) x5)
noncomputable def Frun_8 : ((AProg → ((List (PTree AObj)) → (AState → (Option (Prod AEnd Heap))))) → (AProg → ((List (PTree AObj)) → (AState → (Option (Prod AEnd Heap)))))) :=
  (fun x0 x1 x2 x3 => @AStep.rec.{1} (fun _ => Option (Prod AEnd Heap)) (@Option.none _) (fun x4 => x0 x1 x2 x4) (fun x4 x5 x6 => @AState.rec.{1} (fun _ => Option (Prod AEnd Heap)) (fun x7 x8 x9 => Frun_3 x0 x1 x2 x4 x5 x7 x8 x9) x6) (fun _ x5 x6 x7 => Frun_7 x0 x1 x2 x5 x6 x7) (fun x4 => FrunAll (x0 x1 x2) x4) (Fastep x1 x2 x3))
noncomputable def Frun : (Nat → (AProg → ((List (PTree AObj)) → (AState → (Option (Prod AEnd Heap)))))) :=
  (fun x0 => @Nat.rec.{1} (fun _ => (AProg → ((List (PTree AObj)) → (AState → (Option (Prod AEnd Heap)))))) (fun _ _ _ => @Option.none _) (fun _ x2 x3 x4 x5 => @Option.rec.{1, 0} _ (fun _ => Option (Prod AEnd Heap)) (Frun_8 x2 x3 x4 x5) (fun x6 => x6) (Foverq x3 x4 x5)) x0)
theorem Frun_eq : @Frun = @Go.Abs.run := by
  funext p0
  refine @Nat.rec  (fun x => @Frun x = @Go.Abs.run x) ?_ ?_ p0
  · skip
    refine Eq.trans (show (@Frun (@Nat.zero )) = (fun _ _ _ => @Option.none _) by kernel_rfl) ?_
    kernel_rfl
  · intro f0 h0
    refine Eq.trans (show (@Frun (@Nat.succ f0)) = (fun x0 x1 x2 => @Option.rec.{1, 0} _ (fun _ => Option (Prod AEnd Heap)) (Frun_8 (@Frun f0) x0 x1 x2) (fun x3 => x3) (Foverq x0 x1 x2)) by kernel_rfl) ?_
    delta Frun_8
    delta Frun_7
    delta Frun_6
    delta Frun_5
    delta Frun_4
    delta Frun_3
    delta Frun_2
    delta Frun_1
    delta Frun_0
    generalize (@Frun f0) = r0 at h0 ⊢
    subst h0
    rw [FPTree_union_eq, FfinishA_eq, FraiseA_eq, FenterA_eq, FdelDsts_eq, Fflush_eq, FdrawRun_eq, FrunAll_eq, Fastep_eq, Foverq_eq]
    kernel_rfl

/-- what is done with a step -/
noncomputable def FrunS : (AProg → List (PTree AObj) → AState → Option (Prod AEnd Heap)) → AProg → List (PTree AObj) → AStep → Option (Prod AEnd Heap) :=
  fun r A L st => @AStep.rec.{1} (fun _ => Option (Prod AEnd Heap)) (@Option.none _) (fun s => r A L s) (fun f a s => @AState.rec.{1} (fun _ => Option (Prod AEnd Heap)) (fun fr cs h => Frun_3 r A L f a fr cs h) s) (fun _ ops k s => Frun_7 r A L ops k s) (fun l => FrunAll (r A L) l) st
/-- the run, a frame's mode looked at first -/
noncomputable def Gorun : Nat → AProg → List (PTree AObj) → AState → Option (Prod AEnd Heap) :=
  fun n => @Nat.rec.{1} (fun _ => AProg → List (PTree AObj) → AState → Option (Prod AEnd Heap)) (fun _ _ _ => @Option.none _) (fun _ ih A L s => @AState.rec.{1} (fun _ => Option (Prod AEnd Heap)) (fun fr cs h => @AFrame.rec.{1} (fun _ => Option (Prod AEnd Heap)) (fun fi e todo ds m => @AMode.rec.{1} (fun _ => Option (Prod AEnd Heap)) (FrunS ih A L (Farun A L s fi e ds cs h todo)) (@Option.rec.{1, 0} _ (fun _ => Option (Prod AEnd Heap)) (Frun_8 ih A L s) (fun r => r) (Foverq A L s)) (fun _ => @Option.rec.{1, 0} _ (fun _ => Option (Prod AEnd Heap)) (Frun_8 ih A L s) (fun r => r) (Foverq A L s)) m) fr) s) n
theorem Gorun_eq : @Gorun = @run := by
  rw [← Frun_eq]
  funext n
  induction n with
  | zero => kernel_rfl
  | succ n ih =>
    funext A L s
    obtain ⟨⟨fi, e, todo, ds, m⟩, cs, h⟩ := s
    cases m with
    | run =>
      refine Eq.trans (show Gorun (n + 1) A L ⟨⟨fi, e, todo, ds, .run⟩, cs, h⟩ = FrunS (Gorun n) A L (Farun A L ⟨⟨fi, e, todo, ds, .run⟩, cs, h⟩ fi e ds cs h todo) by kernel_rfl) ?_
      rw [ih]
      kernel_rfl
    | returning =>
      refine Eq.trans (show Gorun (n + 1) A L ⟨⟨fi, e, todo, ds, .returning⟩, cs, h⟩ = @Option.rec.{1, 0} _ (fun _ => Option (Prod AEnd Heap)) (Frun_8 (Gorun n) A L ⟨⟨fi, e, todo, ds, .returning⟩, cs, h⟩) (fun r => r) (Foverq A L ⟨⟨fi, e, todo, ds, .returning⟩, cs, h⟩) by kernel_rfl) ?_
      rw [ih]
      kernel_rfl
    | panicking c =>
      refine Eq.trans (show Gorun (n + 1) A L ⟨⟨fi, e, todo, ds, .panicking c⟩, cs, h⟩ = @Option.rec.{1, 0} _ (fun _ => Option (Prod AEnd Heap)) (Frun_8 (Gorun n) A L ⟨⟨fi, e, todo, ds, .panicking c⟩, cs, h⟩) (fun r => r) (Foverq A L ⟨⟨fi, e, todo, ds, .panicking c⟩, cs, h⟩) by kernel_rfl) ?_
      rw [ih]
      kernel_rfl
noncomputable def FPTree_build : ((x0 : Type) → ((List x0) → (Pos → ((PTree x0) → (PTree x0))))) :=
  (fun x0 x1 => @List.rec.{1, 0} x0 (fun _ => (Pos → ((PTree x0) → (PTree x0)))) (fun _ x3 => x3) (fun x2 _ x4 x5 x6 => x4 (FPos_inc x5) (FPTree_put x0 x5 x2 x6)) x1)
theorem FPTree_build_eq : @FPTree_build = @Go.Abs.PTree.build := by
  funext p0 p1
  refine @List.rec _ (fun x => @FPTree_build p0 x = @Go.Abs.PTree.build p0 x) ?_ ?_ p1
  · skip
    refine Eq.trans (show (@FPTree_build p0 (@List.nil _)) = (fun _ x1 => x1) by kernel_rfl) ?_
    kernel_rfl
  · intro f0 f1 h0
    refine Eq.trans (show (@FPTree_build p0 (@List.cons _ f0 f1)) = (fun x0 x1 => (@FPTree_build p0 f1) (FPos_inc x0) (FPTree_put p0 x0 f0 x1)) by kernel_rfl) ?_
    generalize (@FPTree_build p0 f1) = r0 at h0 ⊢
    subst h0
    rw [FPos_inc_eq, FPTree_put_eq]
    kernel_rfl
noncomputable def FPTree_ofList : ((x0 : Type) → ((List x0) → (PTree x0))) :=
  (fun x0 x1 => FPTree_build x0 x1 Pos.H (@PTree.leaf x0))
theorem FPTree_ofList_eq : @FPTree_ofList = @Go.Abs.PTree.ofList := by
  delta FPTree_ofList
  rw [FPTree_build_eq]; kernel_rfl
noncomputable def Fadvance_0 : (AFrame → ((List AFrame) → ((PTree AObj) → (Heap → (AVal → (Option AState)))))) :=
  (fun x0 x1 x2 x3 x4 => @Heap.rec.{1} (fun _ => Option AState) (fun x5 x6 => @Option.rec.{1, 0} _ (fun _ => Option AState) (@Option.none _) (fun x7 => @Option.some _ (AState.mk x7 x1 (Heap.mk (FPTree_union AObj x5 x2) x6))) (FfinishA x0 x4)) x3)
noncomputable def Fadvance_1 : (AFrame → ((List AFrame) → ((PTree AObj) → (AEnd → (Heap → (Option AState)))))) :=
  (fun x0 x1 x2 x3 x4 => @AEnd.rec.{1} (fun _ => Option AState) (fun x5 => Fadvance_0 x0 x1 x2 x4 x5) (fun x5 => @Heap.rec.{1} (fun _ => Option AState) (fun x6 x7 => @Option.some _ (AState.mk (FraiseA x0 x5) x1 (Heap.mk (FPTree_union AObj x6 x2) x7))) x4) x3)
noncomputable def Fadvance_2 : (Nat → (AProg → ((List (PTree AObj)) → (AFrame → ((List AFrame) → ((PTree AObj) → (Pos → (AFrame → (Option AState))))))))) :=
  (fun x0 x1 x2 x3 x4 x5 x6 x7 => @Option.rec.{1, 0} _ (fun _ => Option AState) (@Option.none _) (fun x8 => @Prod.rec.{1, 0, 0} _ _ (fun _ => Option AState) (fun x9 x10 => Fadvance_1 x3 x4 x5 x9 x10) x8) (Gorun x0 x1 (@List.cons _ x5 x2) (AState.mk x7 (@List.nil _) (Heap.mk (@PTree.leaf _) x6))))
noncomputable def Fadvance_3 : (Nat → (AProg → ((List (PTree AObj)) → (Go.FuncId → ((List AVal) → (AFrame → ((List AFrame) → (Heap → (Option AState))))))))) :=
  (fun x0 x1 x2 x3 x4 x5 x6 x7 => @Heap.rec.{1} (fun _ => Option AState) (fun x8 x9 => @Option.rec.{1, 0} _ (fun _ => Option AState) (@Option.none _) (fun x10 => Fadvance_2 x0 x1 x2 x5 x6 x8 x9 x10) (FenterA x1 x3 x4 Bool.false)) x7)
noncomputable def Fadvance_4 : ((Array Go.Oper) → ((List AFrame) → (FInfo → (Env → ((List ADef) → (AMode → ((List (Prod AVal Bool)) → (Heap → (Option AState))))))))) :=
  (fun x0 x1 x2 x3 x4 x5 x6 x7 => @Option.some _ (AState.mk (FraiseA (AFrame.mk x2 (Env.mk (@List.nil _) (FdelDsts (@Array.toList Go.Oper x0) (Fflush (FInfo.msk x2) (Env.rc x3) (Env.tm x3)))) (@List.cons _ AItem.lost (@List.nil _)) x4 x5) x6) x1 x7))
noncomputable def Fadvance_5 : ((Array Go.Oper) → ((List AItem) → ((List AFrame) → (FInfo → (Env → ((List ADef) → (AMode → (DOut → (Option AState))))))))) :=
  (fun x0 x1 x2 x3 x4 x5 x6 x7 => @DOut.rec.{1} (fun _ => Option AState) (fun x8 x9 => @Option.some _ (AState.mk (AFrame.mk x3 x8 x1 x5 x6) x2 x9)) (fun x8 x9 => Fadvance_4 x0 x2 x3 x4 x5 x6 x8 x9) x7)
noncomputable def Fadvance_6 : (Nat → (AProg → ((List (PTree AObj)) → ((Array Go.Oper) → ((List AItem) → ((List AFrame) → (Heap → (FInfo → (Env → ((List ADef) → (AMode → (Option AState)))))))))))) :=
  (fun x0 x1 x2 x3 x4 x5 x6 x7 x8 x9 x10 => @Option.rec.{1, 0} _ (fun _ => Option AState) (@Option.none _) (fun x11 => Fadvance_5 x3 x4 x5 x7 x8 x9 x10 x11) (FdrawRun (Gorun x0 x1 x2) x1 x2 (FInfo.nt x7) x3 (Fflush (FInfo.msk x7) (Env.rc x8) (Env.tm x8)) x6))
noncomputable def Fadvance_7 : (Nat → (AProg → ((List (PTree AObj)) → (AState → (Option AState))))) :=
  (fun x0 x1 x2 x3 => @AStep.rec.{1} (fun _ => Option AState) (@Option.none _) (fun x4 => @Option.some _ x4) (fun x4 x5 x6 => @AState.rec.{1} (fun _ => Option AState) (fun x7 x8 x9 => Fadvance_3 x0 x1 x2 x4 x5 x7 x8 x9) x6) (fun _ x5 x6 x7 => @AState.rec.{1} (fun _ => Option AState) (fun x8 x9 x10 => @AFrame.rec.{1} (fun _ => Option AState) (fun x11 x12 _ x14 x15 => Fadvance_6 x0 x1 x2 x5 x6 x9 x10 x11 x12 x14 x15) x8) x7) (fun _ => @Option.none _) (Fastep x1 x2 x3))
noncomputable def Fadvance : (Nat → (AProg → ((List (PTree AObj)) → (AState → (Option AState))))) :=
  (fun x0 x1 x2 x3 => @Option.rec.{1, 0} _ (fun _ => Option AState) (Fadvance_7 x0 x1 x2 x3) (fun _ => @Option.none _) (Foverq x1 x2 x3))
theorem Fadvance_eq : @Fadvance = @Go.Abs.advance := by
  delta Fadvance
  delta Fadvance_7
  delta Fadvance_6
  delta Fadvance_5
  delta Fadvance_4
  delta Fadvance_3
  delta Fadvance_2
  delta Fadvance_1
  delta Fadvance_0
  rw [FPTree_union_eq, FfinishA_eq, FraiseA_eq, Gorun_eq, FenterA_eq, FdelDsts_eq, Fflush_eq, FdrawRun_eq, Fastep_eq, Foverq_eq]; kernel_rfl
noncomputable def FrunTo : (Nat → (Nat → (AProg → ((List (PTree AObj)) → (AState → (Option AState)))))) :=
  (fun x0 => @Nat.rec.{1} (fun _ => (Nat → (AProg → ((List (PTree AObj)) → (AState → (Option AState)))))) (fun _ _ _ x4 => @Option.some _ x4) (fun _ x2 x3 x4 x5 x6 => @Option.rec.{1, 0} _ (fun _ => Option AState) (@Option.none _) (fun x7 => x2 x3 x4 x5 x7) (Fadvance x3 x4 x5 x6)) x0)
theorem FrunTo_eq : @FrunTo = @Go.Abs.runTo := by
  funext p0
  refine @Nat.rec  (fun x => @FrunTo x = @Go.Abs.runTo x) ?_ ?_ p0
  · skip
    refine Eq.trans (show (@FrunTo (@Nat.zero )) = (fun _ _ _ x3 => @Option.some _ x3) by kernel_rfl) ?_
    kernel_rfl
  · intro f0 h0
    refine Eq.trans (show (@FrunTo (@Nat.succ f0)) = (fun x0 x1 x2 x3 => @Option.rec.{1, 0} _ (fun _ => Option AState) (@Option.none _) (fun x4 => (@FrunTo f0) x0 x1 x2 x4) (Fadvance x0 x1 x2 x3)) by kernel_rfl) ?_
    generalize (@FrunTo f0) = r0 at h0 ⊢
    subst h0
    rw [Fadvance_eq]
    kernel_rfl
noncomputable def FnoneOf : ((PTree AObj) → ((List Nat) → Bool)) :=
  (fun x0 x1 => @List.rec.{1, 0} _ (fun _ => Bool) Bool.true (fun x2 _ x4 => @Option.rec.{1, 0} _ (fun _ => Bool) x4 (fun _ => Bool.false) (FPTree_get AObj (FposOf x2) x0)) x1)
theorem FnoneOf_eq : @FnoneOf = @Go.Abs.noneOf := by
  funext p0 p1
  refine @List.rec _ (fun x => @FnoneOf p0 x = @Go.Abs.noneOf p0 x) ?_ ?_ p1
  · skip
    refine Eq.trans (show (@FnoneOf p0 (@List.nil _)) = Bool.true by kernel_rfl) ?_
    kernel_rfl
  · intro f0 f1 h0
    refine Eq.trans (show (@FnoneOf p0 (@List.cons _ f0 f1)) = (@Option.rec.{1, 0} _ (fun _ => Bool) (@FnoneOf p0 f1) (fun _ => Bool.false) (FPTree_get AObj (FposOf f0) p0)) by kernel_rfl) ?_
    generalize (@FnoneOf p0 f1) = r0 at h0 ⊢
    subst h0
    rw [FPTree_get_eq, FposOf_eq]
    kernel_rfl
noncomputable def FkeepIn : ((PTree AObj) → ((List Nat) → (PTree AObj))) :=
  (fun x0 x1 => @List.rec.{1, 0} _ (fun _ => PTree AObj) (@PTree.leaf _) (fun x2 _ x4 => @Option.rec.{1, 0} _ (fun _ => PTree AObj) x4 (fun x5 => FPTree_put AObj (FposOf x2) x5 x4) (FPTree_get AObj (FposOf x2) x0)) x1)
theorem FkeepIn_eq : @FkeepIn = @Go.Abs.keepIn := by
  funext p0 p1
  refine @List.rec _ (fun x => @FkeepIn p0 x = @Go.Abs.keepIn p0 x) ?_ ?_ p1
  · skip
    refine Eq.trans (show (@FkeepIn p0 (@List.nil _)) = (@PTree.leaf _) by kernel_rfl) ?_
    kernel_rfl
  · intro f0 f1 h0
    refine Eq.trans (show (@FkeepIn p0 (@List.cons _ f0 f1)) = (@Option.rec.{1, 0} _ (fun _ => PTree AObj) (@FkeepIn p0 f1) (fun x0 => FPTree_put AObj (FposOf f0) x0 (@FkeepIn p0 f1)) (FPTree_get AObj (FposOf f0) p0)) by kernel_rfl) ?_
    generalize (@FkeepIn p0 f1) = r0 at h0 ⊢
    subst h0
    rw [FPTree_put_eq, FposOf_eq, FPTree_get_eq]
    kernel_rfl
noncomputable def FtrimA : ((List Nat) → ((List Nat) → (AState → (Option AState)))) :=
  (fun x0 x1 x2 => @AState.rec.{1} (fun _ => Option AState) (fun x3 x4 x5 => @Heap.rec.{1} (fun _ => Option AState) (fun x6 x7 => @Bool.rec.{1} (fun _ => Option AState) (@Option.none _) (@Option.some _ (AState.mk x3 x4 (Heap.mk (FkeepIn x6 x1) x7))) (FnoneOf x6 x0)) x5) x2)
theorem FtrimA_eq : @FtrimA = @Go.Abs.trimA := by
  delta FtrimA
  rw [FkeepIn_eq, FnoneOf_eq]; kernel_rfl
noncomputable def Fpart : (Nat → (Nat → ((List Nat) → ((List Nat) → (AProg → ((List (PTree AObj)) → (AState → (Option AState)))))))) :=
  (fun x0 x1 x2 x3 x4 x5 x6 => @Option.rec.{1, 0} _ (fun _ => Option AState) (@Option.none _) (fun x7 => FtrimA x2 x3 x7) (FrunTo x0 x1 x4 x5 x6))
theorem Fpart_eq : @Fpart = @Go.Abs.part := by
  delta Fpart
  rw [FtrimA_eq, FrunTo_eq]; kernel_rfl
noncomputable def FheapOf : ((List (Prod Nat AObj)) → (PTree AObj)) :=
  (fun x0 => @List.rec.{1, 0} _ (fun _ => PTree AObj) (@PTree.leaf _) (fun x1 _ x3 => FPTree_put AObj (FposOf (@Prod.fst Nat AObj x1)) (@Prod.snd Nat AObj x1) x3) x0)
theorem FheapOf_eq : @FheapOf = @Go.Abs.heapOf := by
  funext p0
  refine @List.rec _ (fun x => @FheapOf x = @Go.Abs.heapOf x) ?_ ?_ p0
  · skip
    refine Eq.trans (show (@FheapOf (@List.nil _)) = (@PTree.leaf _) by kernel_rfl) ?_
    kernel_rfl
  · intro f0 f1 h0
    refine Eq.trans (show (@FheapOf (@List.cons _ f0 f1)) = (FPTree_put AObj (FposOf (@Prod.fst Nat AObj f0)) (@Prod.snd Nat AObj f0) (@FheapOf f1)) by kernel_rfl) ?_
    generalize (@FheapOf f1) = r0 at h0 ⊢
    subst h0
    rw [FPTree_put_eq, FposOf_eq]
    kernel_rfl
noncomputable def FtmpsOf : ((List (Prod Nat AVal)) → (PTree AVal)) :=
  (fun x0 => @List.rec.{1, 0} _ (fun _ => PTree AVal) (@PTree.leaf _) (fun x1 _ x3 => FPTree_put AVal (FposOf (@Prod.fst Nat AVal x1)) (@Prod.snd Nat AVal x1) x3) x0)
theorem FtmpsOf_eq : @FtmpsOf = @Go.Abs.tmpsOf := by
  funext p0
  refine @List.rec _ (fun x => @FtmpsOf x = @Go.Abs.tmpsOf x) ?_ ?_ p0
  · skip
    refine Eq.trans (show (@FtmpsOf (@List.nil _)) = (@PTree.leaf _) by kernel_rfl) ?_
    kernel_rfl
  · intro f0 f1 h0
    refine Eq.trans (show (@FtmpsOf (@List.cons _ f0 f1)) = (FPTree_put AVal (FposOf (@Prod.fst Nat AVal f0)) (@Prod.snd Nat AVal f0) (@FtmpsOf f1)) by kernel_rfl) ?_
    generalize (@FtmpsOf f1) = r0 at h0 ⊢
    subst h0
    rw [FPTree_put_eq, FposOf_eq]
    kernel_rfl
noncomputable def FcodeAt_0 : (Nat → ((Go.Code → Go.Code) → (Go.Code → Go.Code))) :=
  (fun x0 x1 x2 => @Go.Code.rec.{1} (fun x3 => (((Nat.hasNotBit (nat_lit 380) (Go.Code.ctorIdx x3)) → Go.Code) → Go.Code)) (fun x3 => x3 (nbq (nat_lit 380) (nat_lit 0) rfl)) (fun x3 x4 x5 x6 => x6 (nbq (nat_lit 380) (nat_lit 1) rfl)) (fun x3 x4 _ _ _ => x1 (@Bool.rec.{1} (fun _ => Go.Code) x4 x3 (Nat.beq x0 (nat_lit 0)))) (fun x3 x4 x5 _ _ _ => x1 (@Bool.rec.{1} (fun _ => Go.Code) x5 x4 (Nat.beq x0 (nat_lit 0)))) (fun x3 x4 _ _ => x1 x4) (fun x3 _ _ => x1 x3) (fun x3 x4 x5 x6 _ _ _ => x1 (@Bool.rec.{1} (fun _ => Go.Code) x6 x5 (Nat.beq x0 (nat_lit 0)))) (fun x3 x4 => x4 (nbq (nat_lit 380) (nat_lit 7) rfl)) (fun x3 _ _ => x1 x3) (fun x3 x4 => x4 (nbq (nat_lit 380) (nat_lit 9) rfl)) (fun x3 x4 => x4 (nbq (nat_lit 380) (nat_lit 10) rfl)) (fun x3 => x3 (nbq (nat_lit 380) (nat_lit 11) rfl)) (fun x3 x4 => x4 (nbq (nat_lit 380) (nat_lit 12) rfl)) x2 (fun _ => x2))
noncomputable def FcodeAt : ((List Nat) → (Go.Code → Go.Code)) :=
  (fun x0 => @List.rec.{1, 0} _ (fun _ => (Go.Code → Go.Code)) (fun x1 => x1) (fun x1 _ x3 x4 => FcodeAt_0 x1 x3 x4) x0)
theorem FcodeAt_eq : @FcodeAt = @Go.Abs.codeAt := by
  funext p0
  refine @List.rec _ (fun x => @FcodeAt x = @Go.Abs.codeAt x) ?_ ?_ p0
  · skip
    refine Eq.trans (show (@FcodeAt (@List.nil _)) = (fun x0 => x0) by kernel_rfl) ?_
    kernel_rfl
  · intro f0 f1 h0
    refine Eq.trans (show (@FcodeAt (@List.cons _ f0 f1)) = (fun x0 => FcodeAt_0 f0 (@FcodeAt f1) x0) by kernel_rfl) ?_
    delta FcodeAt_0
    generalize (@FcodeAt f1) = r0 at h0 ⊢
    subst h0
    kernel_rfl
noncomputable def FopsAt : ((List Nat) → (Go.Code → (Array Go.Oper))) :=
  (fun x0 x1 => @Go.Code.rec.{1} (fun x2 => (((Nat.hasNotBit (nat_lit 2) (Go.Code.ctorIdx x2)) → (Array Go.Oper)) → (Array Go.Oper))) (fun x2 => x2 (nbq (nat_lit 2) (nat_lit 0) rfl)) (fun x2 x3 x4 _ => x3) (fun x2 x3 _ _ x6 => x6 (nbq (nat_lit 2) (nat_lit 2) rfl)) (fun x2 x3 x4 _ _ x7 => x7 (nbq (nat_lit 2) (nat_lit 3) rfl)) (fun x2 x3 _ x5 => x5 (nbq (nat_lit 2) (nat_lit 4) rfl)) (fun x2 _ x4 => x4 (nbq (nat_lit 2) (nat_lit 5) rfl)) (fun x2 x3 x4 x5 _ _ x8 => x8 (nbq (nat_lit 2) (nat_lit 6) rfl)) (fun x2 x3 => x3 (nbq (nat_lit 2) (nat_lit 7) rfl)) (fun x2 _ x4 => x4 (nbq (nat_lit 2) (nat_lit 8) rfl)) (fun x2 x3 => x3 (nbq (nat_lit 2) (nat_lit 9) rfl)) (fun x2 x3 => x3 (nbq (nat_lit 2) (nat_lit 10) rfl)) (fun x2 => x2 (nbq (nat_lit 2) (nat_lit 11) rfl)) (fun x2 x3 => x3 (nbq (nat_lit 2) (nat_lit 12) rfl)) (FcodeAt x0 x1) (fun _ => @List.toArray Go.Oper (@List.nil _)))
theorem FopsAt_eq : @FopsAt = @Go.Abs.opsAt := by
  delta FopsAt
  rw [FcodeAt_eq]; kernel_rfl
noncomputable def FbodyOf : (AProg → (Go.FuncId → Go.Code)) :=
  (fun x0 x1 => @Option.rec.{1, 0} _ (fun _ => Go.Code) Go.Code.skip (fun x2 => @Option.rec.{1, 0} _ (fun _ => Go.Code) Go.Code.skip (fun x3 => x3) (Go.Func.body x2)) (FPTree_get Go.Func (FposOf x1) (AProg.funcs x0)))
theorem FbodyOf_eq : @FbodyOf = @Go.Abs.bodyOf := by
  delta FbodyOf
  rw [FPTree_get_eq, FposOf_eq]; kernel_rfl
end Go.Abs
