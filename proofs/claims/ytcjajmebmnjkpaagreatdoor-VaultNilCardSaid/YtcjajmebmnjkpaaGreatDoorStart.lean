/- The tie of this program to the evaluator: its tables, and what its listed variables hold when a call begins. -/
import Derived.Test.YtcjajmebmnjkpaaGreatDoorChecked
import Derived.Test.YtcjajmebmnjkpaaGreatDoorRows
import Derived.Test.YtcjajmebmnjkpaaGreatDoorAbs6
import Derived.ProofKit
import Derived.LaidMore
import Derived.OpenShut
import Derived.Stop.Joined
set_option linter.unusedVariables false
set_option linter.unusedSimpArgs false
set_option linter.unusedSectionVars false
open Go Go.Abs
namespace Go.Proofs.YtcjajmebmnjkpaaGreatDoor
open Go.ChangeShapes Go.WideShapes Go.ChangeAt Go.WideMaps Go.WideElems Go.RowKit
def masksL : List Nat := [0, 0, 0, 1748311, 63, 64495, 243, 127, 1807, 5, 5, 5, 5, 5, 5, 5, 5, 5, 115, 3855, 34359739387, 28851, 1, 7696588734811, 481036337245, 63054243308766557, 5, 453347182381874219581951, 5, 243, 51, 235, 55, 7, 1, 125, 3145789, 3145789, 199, 100663421, 13, 13, 5, 1, 51, 43, 1011, 1, 23, 15, 58720303, 15455, 7, 4039, 23, 5, 19, 27, 31, 234884973, 31, 115, 464671, 13, 27, 5, 5, 5, 5, 7, 251, 1019, 5, 51, 5, 5, 5, 5, 5, 3670061, 5, 5, 12339, 19, 19, 19, 19, 19, 19, 19, 19, 98299, 24573, 19, 5, 13, 3145789, 19, 7, 7, 199, 4071, 3565, 229, 229, 485, 493, 229, 1509, 237, 493, 229, 229, 6631, 5, 19, 51, 59, 1610612859, 253, 199, 13, 15, 234884973, 3187, 15, 3187, 3187, 3187, 5, 32895, 199, 5, 5, 12339, 215, 87, 7, 19, 87, 7, 13, 199, 247, 243, 7, 199, 1, 28863, 15, 271, 499, 7251, 51, 1, 5, 5, 5, 917615, 7, 59, 61, 5, 27, 125, 56668397794435742572029, 5, 7251, 5, 5, 5, 5, 5, 5, 5, 5, 5, 5, 15, 5, 5, 5, 5, 19, 19, 12339, 12339, 12339, 12339, 33267, 230343, 31, 12339, 33267, 133063, 19, 5, 12339, 51, 61, 51, 19, 30786325577907, 243, 13, 4835703278458516698824955, 4294967767, 262615, 34359742287, 511, 61, 1991, 51, 435, 15079, 96079, 2007, 39, 71, 271, 15, 2959, 7, 3, 64543, 3, 55, 15, 455, 7, 3, 1807, 243, 87, 3, 5, 19, 19, 979, 5, 4183, 31, 83, 999, 4047, 379, 5, 31, 23, 27, 229419, 5, 5, 13, 7, 59, 5, 5, 983, 19, 5, 5, 0, 5, 12339, 33267, 243, 51, 19, 125, 19, 19, 243, 15, 19, 115, 5, 1991, 13, 455, 127, 455, 8151, 252959, 3919, 903, 391, 19, 16785367, 83, 455, 3031, 271, 51, 29, 503, 5, 5, 59, 23, 119, 111, 3, 5, 51, 1, 402780111, 4055, 31, 967, 19, 507, 7, 119, 247, 131127, 435, 15, 5, 5, 43, 3, 29, 243, 271, 243, 253, 5, 13, 499, 115, 71, 63, 115, 13, 243, 1021, 61, 2096223, 8384703, 189, 61, 32591, 1807, 487, 115, 51, 71, 1807, 7199, 7, 71, 509, 87, 125, 125, 5, 5, 371, 119, 5, 359, 3, 5, 3, 19, 5, 5, 63, 4095, 493, 115, 115, 0, 3, 3527, 3, 247, 524047, 5, 19, 243, 967, 19, 29, 61, 5, 29, 114733, 119, 13, 271, 2007, 12339, 483, 19, 6191, 201327355, 7, 3123, 435, 15, 399, 5, 98333, 29, 271, 51, 5, 51, 8183, 32735, 61, 199, 5, 5, 3, 199, 1991, 1991, 562949953429447, 199, 1991, 19, 1807, 3855, 5, 5, 199, 3, 19, 5, 19, 215, 71, 51, 7, 65535, 13, 783, 5, 5, 71, 1055, 435, 479, 783, 0, 0, 0, 0, 0, 0, 0, 0, 0, 0, 0, 0, 0, 0, 0, 0, 0, 0, 0, 0, 0, 0, 0, 0, 0, 0, 0, 0, 0, 0, 0, 0, 0]
def plainL : List Nat := [7, 8, 25, 26, 35, 36, 45, 46, 50, 51, 54, 55, 56, 57, 58, 59, 60, 61, 68, 69, 72, 73, 99, 100, 113, 114, 118, 119, 129, 130, 134, 135, 140, 141, 142, 143, 156, 157, 168, 169, 174, 175, 186, 187, 191, 192, 199, 200, 203, 204, 205, 206, 208, 209, 210, 211, 213, 214, 215, 216, 220, 221, 222, 223, 224, 225, 228, 229, 231, 232, 244, 245, 250, 251, 281, 282, 294, 295, 311, 312, 314, 315, 350, 351, 353, 354, 356, 357, 358, 359, 379, 380, 381, 382, 384, 385, 387, 388, 412, 413, 417, 418, 431, 432, 468, 469, 504, 510, 511, 525, 526, 532, 533, 541, 542, 545, 546, 557, 558, 561, 562, 567, 568, 591, 592, 621, 622, 624, 625, 628, 629]
noncomputable def AP : AProg := { types := FPTree_ofList TypeInfo Tryz.progTables.types.toList, funcs := FPTree_ofList Func Tryz.funcs.toList, masks := FPTree_ofList Nat masksL, apart := FPTree_put Unit (posOf 253) () (FPTree_put Unit (posOf 152) () (PTree.leaf)), clones := FPTree_put Unit (posOf 262) () PTree.leaf, plain := unitsAt plainL }
set_option maxRecDepth 100000
theorem AP_ok : AP.Ok Tryz.prog :=
  ok_of Tryz.progTables.types.toList Tryz.funcs.toList plainL 262 Tryz.f262 rfl rfl
    (by unfold AP; simp only; rw [FPTree_ofList_eq]) (by unfold AP; simp only; rw [FPTree_ofList_eq]) (by unfold AP; simp only; rw [FPTree_put_eq]) (by unfold AP; rfl)
    (by kernel_rfl) (by kernel_rfl) (by kernel_rfl) (by kernel_rfl) (by kernel_rfl) (by kernel_rfl) (by kernel_rfl) (by kernel_rfl) (by kernel_rfl)
def laidL : List (String × DataW Unit) := [("warder/types.rows", Rows.laid_warder_types_rows)]
theorem lows_some : (lowsOf Tryz.prog laidL).isSome = true := by kernel_rfl
noncomputable def lowsL : List (Nat × List AVal) := (lowsOf Tryz.prog laidL).getD []
theorem lows_eq : lowsOf Tryz.prog laidL = some lowsL := by
  unfold lowsL
  have := lows_some
  cases h : lowsOf Tryz.prog laidL with
  | none => rw [h] at this; cases this
  | some l => rfl
noncomputable def lowL : List (PTree AObj) := [lowTree lowsL]
theorem own : ownKnob Tryz.prog.godebug = none := by kernel_rfl
theorem door_met (os : Os) (args : Array Value) : laidMetH Tryz.prog laidL ((World.doorLaid Tryz.prog 4000 os).forCall (fun _ _ => 0) ⟨#[], args, []⟩).memory :=
  laidMetH_of_parts3 (fuel := 8) (laidMet_of_run' 8 (by kernel_rfl) (by kernel_rfl)) (by kernel_rfl) (by kernel_rfl)
theorem laid_plain {w : World} (h : laidMetH Tryz.prog laidL w) : laidMet Tryz.prog laidL w := by
  rw [MakeChecks.laidMetH_plain _ _ _ (by kernel_rfl)] at h
  exact h
/-- the frame of a call without arguments -/
noncomputable def frameOf (f : FuncId) : AFrame := match FenterA AP f [] false with | some g => g | none => ⟨⟨0, 0, 0, false, none⟩, ⟨[], .leaf⟩, [], [], .run⟩
/-- is a run's end the value true? -/
def endsTrue (x : Option (AEnd × Heap)) : Bool := match x with | some (.ret (.bool true), _) => true | _ => false
theorem endsTrue_some {x : Option (AEnd × Heap)} (h : endsTrue x = true) : ∃ hp, x = some (.ret (.bool true), hp) := by
  unfold endsTrue at h
  split at h
  · exact ⟨_, rfl⟩
  · cases h
theorem law_enter : (FenterA AP 3 [] false).isSome = true := by kernel_rfl
end Go.Proofs.YtcjajmebmnjkpaaGreatDoor
