/- The tie of this program to the evaluator: its tables, and what its listed variables hold when a call begins. -/
import Derived.Test.YtpmddbaiedhcgaaGreatDoorChecked
import Derived.Test.YtpmddbaiedhcgaaGreatDoorRows
import Derived.Test.YtpmddbaiedhcgaaGreatDoorAbs7
import Derived.ProofKit
import Derived.LaidMore
import Derived.OpenShut
import Derived.Stop.Joined
set_option linter.unusedVariables false
set_option linter.unusedSimpArgs false
set_option linter.unusedSectionVars false
open Go Go.Abs
namespace Go.Proofs.YtpmddbaiedhcgaaGreatDoor
open Go.ChangeShapes Go.WideShapes Go.ChangeAt Go.WideMaps Go.WideElems Go.RowKit
def masksL : List Nat := [0, 0, 0, 40369311, 29, 29, 127, 1807, 117486143, 1, 5, 517, 199, 199, 15192063, 5, 5, 23, 63, 15, 31, 61, 30064771165, 29, 469762141, 51, 5, 51, 5, 5, 503, 61, 271, 253, 55, 7, 1, 125, 3145789, 3145789, 199, 100663421, 13, 13, 199, 13, 1, 11, 19, 55, 5, 23, 5, 19, 7, 87, 58720303, 61, 7, 27, 243, 5, 59, 56668397794435742572029, 23, 234884973, 1, 5, 98299, 19, 5, 13, 3145789, 19, 7, 7, 199, 435, 123, 34359739387, 19, 19, 3855, 5, 15, 234884973, 3187, 15, 3187, 3187, 3187, 5, 5, 983, 23, 19, 1011, 243, 5, 59, 19, 51, 481036337245, 61, 5, 51, 19, 30786325577907, 243, 63054243308766557, 13, 4835703278458516698824955, 4294967767, 262615, 64495, 34359742287, 7696588734811, 435, 32895, 251, 7, 7, 4039, 5, 51, 15455, 5, 19, 19, 979, 59, 5, 51, 59, 435, 115, 464671, 1, 243, 51, 19, 125, 19, 13, 27, 31, 31, 19, 243, 15, 19, 115, 5, 1991, 13, 455, 127, 51, 455, 8151, 252959, 1, 43, 3919, 903, 391, 19, 16785367, 27, 234884973, 5, 199, 5, 5, 19, 5, 19, 87, 3, 5, 243, 87, 3, 13, 199, 247, 243, 7, 199, 1, 28863, 15, 271, 499, 7251, 51, 1, 1610612859, 29, 243, 271, 243, 253, 5, 5, 215, 7, 87, 7, 5, 13, 83, 499, 115, 71, 63, 115, 5, 13, 243, 5, 1021, 61, 2096223, 115, 8384703, 189, 61, 4071, 3565, 229, 229, 485, 493, 229, 1509, 237, 493, 229, 229, 6631, 32591, 1807, 487, 115, 51, 71, 1807, 7199, 7, 71, 19, 3527, 5, 5, 5, 83, 999, 4047, 379, 1019, 5, 31, 23, 27, 15, 19, 243, 5, 4183, 31, 5, 509, 967, 19, 29, 61, 5, 29, 114733, 119, 5, 13, 271, 2007, 12339, 483, 19, 6191, 111, 5, 201327355, 7, 3123, 435, 15, 399, 5, 5, 98333, 29, 119, 15079, 96079, 2007, 39, 71, 271, 15, 2959, 7, 3, 64543, 3, 55, 15, 455, 7, 3, 1807, 271, 51, 5, 455, 51, 119, 7251, 402780111, 59, 61, 125, 247, 131127, 435, 15, 5, 507, 7, 8183, 32735, 199, 3, 19, 5, 215, 3, 3031, 271, 51, 29, 503, 3, 51, 1, 4055, 31, 967, 71, 3, 5, 19, 63, 4095, 59, 51, 7, 65535, 435, 125, 125, 5, 371, 119, 5, 359, 493, 115, 115, 0, 3, 199, 3, 479, 5, 5, 3, 13, 0, 0, 0, 0, 0, 0, 0, 0, 0, 0, 0, 0, 0, 0, 0, 0, 0, 0, 0, 0, 0, 0, 0, 0, 0, 0, 0, 0, 0, 0, 0, 0, 0, 0, 0, 0, 0, 0, 0]
def plainL : List Nat := [7, 8, 26, 27, 29, 30, 34, 35, 38, 39, 40, 41, 45, 46, 47, 48, 56, 57, 61, 62, 70, 71, 74, 75, 78, 79, 91, 92, 109, 110, 116, 117, 121, 122, 135, 136, 141, 142, 149, 150, 172, 173, 174, 175, 177, 178, 182, 183, 184, 185, 189, 190, 197, 198, 200, 201, 202, 203, 205, 206, 207, 208, 210, 211, 212, 213, 217, 218, 219, 220, 221, 222, 225, 226, 228, 229, 231, 232, 234, 235, 239, 240, 260, 261, 271, 272, 273, 274, 285, 286, 288, 289, 290, 291, 297, 298, 302, 303, 323, 324, 325, 326, 330, 331, 334, 335, 336, 337, 349, 350, 372, 373, 383, 384, 440, 441, 447, 448, 457, 458, 461, 462, 494, 495, 504, 505, 508, 509, 533, 534, 542, 573, 574, 578, 579]
noncomputable def AP : AProg := { types := FPTree_ofList TypeInfo Tryz.progTables.types.toList, funcs := FPTree_ofList Func Tryz.funcs.toList, masks := FPTree_ofList Nat masksL, apart := FPTree_put Unit (posOf 194) () (PTree.leaf), clones := PTree.leaf, plain := unitsAt plainL }
set_option maxRecDepth 100000
theorem AP_ok : AP.Ok Tryz.prog :=
  ok_of0 Tryz.progTables.types.toList Tryz.funcs.toList plainL rfl rfl
    (by unfold AP; simp only; rw [FPTree_ofList_eq]) (by unfold AP; simp only; rw [FPTree_ofList_eq]) (by unfold AP; rfl) (by unfold AP; rfl)
    (by kernel_rfl) (by kernel_rfl) (by kernel_rfl) (by kernel_rfl)
def laidL : List (String × DataW Unit) := [("warder/types.rows", Rows.laid_warder_types_rows)]
theorem lows_some : (lowsOf Tryz.prog laidL).isSome = true := by kernel_rfl
noncomputable def lowsL : List (Nat × List AVal) := (lowsOf Tryz.prog laidL).getD []
theorem lows_eq : lowsOf Tryz.prog laidL = some lowsL := by
  unfold lowsL
  have := lows_some
  cases h : lowsOf Tryz.prog laidL with
  | none => rw [h] at this; cases this
  | some l => rfl
noncomputable def lowL : List (PTree AObj) := [lowTree lowsL]
theorem own : ownKnob Tryz.prog.godebug = none := by kernel_rfl
theorem door_met (os : Os) (args : Array Value) : laidMetH Tryz.prog laidL ((World.doorLaid Tryz.prog 4000 os).forCall (fun _ _ => 0) ⟨#[], args, []⟩).memory :=
  laidMetH_of_parts3 (fuel := 8) (laidMet_of_run' 8 (by kernel_rfl) (by kernel_rfl)) (by kernel_rfl) (by kernel_rfl)
theorem laid_plain {w : World} (h : laidMetH Tryz.prog laidL w) : laidMet Tryz.prog laidL w := by
  rw [MakeChecks.laidMetH_plain _ _ _ (by kernel_rfl)] at h
  exact h
/-- the frame of a call without arguments -/
noncomputable def frameOf (f : FuncId) : AFrame := match FenterA AP f [] false with | some g => g | none => ⟨⟨0, 0, 0, false, none⟩, ⟨[], .leaf⟩, [], [], .run⟩
/-- is a run's end the value true? -/
def endsTrue (x : Option (AEnd × Heap)) : Bool := match x with | some (.ret (.bool true), _) => true | _ => false
theorem endsTrue_some {x : Option (AEnd × Heap)} (h : endsTrue x = true) : ∃ hp, x = some (.ret (.bool true), hp) := by
  unfold endsTrue at h
  split at h
  · exact ⟨_, rfl⟩
  · cases h
theorem law_enter : (FenterA AP 3 [] false).isSome = true := by kernel_rfl
end Go.Proofs.YtpmddbaiedhcgaaGreatDoor
