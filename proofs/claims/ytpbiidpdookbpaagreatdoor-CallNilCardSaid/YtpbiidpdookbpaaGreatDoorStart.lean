/- The tie of this program to the evaluator: its tables, and what its listed variables hold when a call begins. -/
import Derived.Test.YtpbiidpdookbpaaGreatDoorChecked
import Derived.Test.YtpbiidpdookbpaaGreatDoorRows
import Derived.Test.YtpbiidpdookbpaaGreatDoorAbs6
import Derived.ProofKit
import Derived.LaidMore
import Derived.OpenShut
import Derived.Stop.Joined
set_option linter.unusedVariables false
set_option linter.unusedSimpArgs false
set_option linter.unusedSectionVars false
open Go Go.Abs
namespace Go.Proofs.YtpbiidpdookbpaaGreatDoor
open Go.ChangeShapes Go.WideShapes Go.ChangeAt Go.WideMaps Go.WideElems Go.RowKit
def masksL : List Nat := [0, 0, 0, 513375, 63, 1, 6927, 13, 13, 5, 5, 5, 5, 5, 5, 127, 55, 7, 1, 125, 3145789, 3145789, 199, 100663421, 13, 13, 5, 5, 51, 5, 7, 29, 1083, 5, 4091, 103, 51, 19, 5, 13, 3145789, 19, 7, 7, 199, 5, 5, 19, 30064771549, 11, 15, 5, 4194431, 435, 5, 115, 509, 5, 3670111, 12339, 258254417031948402851, 5, 199, 1, 5, 51, 1, 15, 3, 23, 31, 13, 13, 51, 51, 51, 1, 1, 1, 1, 1, 1, 1, 1, 1, 1, 1, 1, 1, 1, 1, 1, 1, 1, 1, 1, 1, 1, 5, 1, 2097159, 114733, 98333, 5, 27, 16499, 71, 19, 30786325577907, 71, 19, 19, 1007, 59, 117486143, 47, 5, 29, 39, 7, 23, 63, 15, 1023, 13, 243, 243, 3, 13, 5, 805306611, 115, 51, 7696585064799, 5, 15, 51, 213, 5, 5, 5, 31, 5, 31, 215, 5, 5, 455, 199, 435, 5, 34359739387, 123, 5, 31, 61, 30064771165, 253, 524317, 15, 3, 31, 3, 63, 3, 123, 1, 61, 1, 495, 15, 15, 1, 31, 3, 127, 3, 7, 7, 7, 3, 3, 7, 13, 3, 63, 19, 243, 15, 27, 111, 5, 5, 19, 5, 5, 5, 87, 7, 87, 7, 4183, 31, 524047, 5, 51, 7, 4039, 23, 32895, 251, 7, 1, 11, 19, 55, 5, 5, 19, 7, 87, 58720303, 61, 7, 27, 5, 59, 56668397794435742572029, 23, 234884973, 28851, 1, 64495, 87, 303, 5, 245, 5, 19, 23, 27, 13, 215, 1023, 191, 115, 3, 1, 15, 31, 127, 59, 5, 31, 61, 5, 243, 63, 1021, 1, 61, 6237, 64563608106274133427, 5, 5, 271, 127, 517, 29, 15, 7, 8191, 31, 15, 7, 31, 31, 15, 31, 29, 31, 243, 243, 5, 11, 7, 1011, 443, 79, 234884973, 19, 5, 5, 5, 507, 87, 7, 199, 1991, 1991, 562949953429447, 199, 1991, 19, 1807, 3855, 5, 5, 199, 5, 435, 19, 19, 3855, 3187, 15, 3187, 3187, 3187, 5, 983, 23, 19, 59, 19, 19, 1, 43, 1, 443, 15455, 19, 11, 1023, 51, 115, 31, 13, 7, 31, 30064778751, 59, 61, 29, 119, 5, 13, 3, 51, 5, 5, 5, 29, 469762141, 4095, 126111, 189, 61, 63, 127, 435, 51, 59, 19, 3527, 243, 5, 783, 5, 5, 71, 1055, 5, 979, 59, 5, 5, 12339, 4071, 3565, 229, 229, 485, 493, 229, 1509, 237, 493, 229, 229, 6631, 1610612859, 7, 435, 29, 3, 3, 1, 19, 755, 1, 2096223, 5, 8384703, 5, 29, 119, 111, 7, 3, 5, 783, 3, 15079, 96079, 2007, 39, 464671, 71, 271, 199, 15, 499, 2959, 7, 3, 64543, 3, 55, 15, 51, 455, 7, 271, 3, 1807, 15, 11, 0, 0, 5, 13, 131059, 523295, 271, 2007, 483, 19, 6191, 5, 201327355, 3123, 435, 15, 399, 3, 3031, 271, 51, 29, 503, 3, 247, 243, 7, 1, 28863, 15, 7251, 1, 4047, 999, 379, 1019, 1, 7251, 402780111, 27, 199, 4055, 31, 967, 23, 5, 5, 5, 5, 5, 19, 5, 215, 125, 125, 5, 371, 119, 5, 359, 119, 83, 5, 31, 125, 5, 19, 63, 4095, 435, 15, 493, 115, 115, 0, 3, 5, 5, 435, 3, 247, 131127, 199, 5, 3, 13, 0, 0, 0, 0, 0, 0, 0, 0, 0, 0, 0, 0, 0, 0, 0, 0, 0, 0, 0, 0, 0, 0, 0, 0, 0, 0, 0, 0, 0, 0, 0, 0, 0, 0, 0, 0, 0, 0, 0, 0]
def plainL : List Nat := [7, 8, 28, 29, 36, 37, 41, 42, 48, 49, 52, 53, 54, 55, 56, 57, 60, 61, 62, 63, 66, 67, 88, 89, 95, 96, 100, 101, 110, 111, 121, 122, 128, 129, 136, 137, 138, 139, 142, 143, 144, 145, 147, 148, 149, 150, 152, 153, 154, 155, 159, 160, 161, 162, 163, 164, 167, 168, 170, 171, 179, 180, 182, 183, 186, 187, 189, 190, 191, 192, 198, 199, 205, 206, 225, 226, 232, 233, 243, 244, 269, 270, 272, 273, 276, 277, 279, 280, 283, 284, 286, 287, 290, 291, 293, 294, 310, 311, 332, 333, 408, 409, 410, 411, 422, 423, 425, 426, 431, 432, 437, 438, 448, 449, 458, 459, 464, 465, 495, 496, 556, 557, 571]
noncomputable def AP : AProg := { types := FPTree_ofList TypeInfo Tryz.progTables.types.toList, funcs := FPTree_ofList Func Tryz.funcs.toList, masks := FPTree_ofList Nat masksL, apart := FPTree_put Unit (posOf 468) () (FPTree_put Unit (posOf 105) () (PTree.leaf)), clones := PTree.leaf, plain := unitsAt plainL }
set_option maxRecDepth 100000
theorem AP_ok : AP.Ok Tryz.prog :=
  ok_of0 Tryz.progTables.types.toList Tryz.funcs.toList plainL rfl rfl
    (by unfold AP; simp only; rw [FPTree_ofList_eq]) (by unfold AP; simp only; rw [FPTree_ofList_eq]) (by unfold AP; rfl) (by unfold AP; rfl)
    (by kernel_rfl) (by kernel_rfl) (by kernel_rfl) (by kernel_rfl)
def laidL : List (String × DataW Unit) := [("math/bits.deBruijn32tab", Rows.laid_math_bits_deBruijn32tab), ("math/bits.deBruijn64tab", Rows.laid_math_bits_deBruijn64tab), ("internal/strconv.uint64pow10", Rows.laid_internal_strconv_uint64pow10), ("warder/types.rows", Rows.laid_warder_types_rows)]
theorem lows_some : (lowsOf Tryz.prog laidL).isSome = true := by kernel_rfl
noncomputable def lowsL : List (Nat × List AVal) := (lowsOf Tryz.prog laidL).getD []
theorem lows_eq : lowsOf Tryz.prog laidL = some lowsL := by
  unfold lowsL
  have := lows_some
  cases h : lowsOf Tryz.prog laidL with
  | none => rw [h] at this; cases this
  | some l => rfl
noncomputable def lowL : List (PTree AObj) := [lowTree lowsL]
theorem own : ownKnob Tryz.prog.godebug = none := by kernel_rfl
theorem door_met (os : Os) (args : Array Value) : laidMetH Tryz.prog laidL ((World.doorLaid Tryz.prog 4000 os).forCall (fun _ _ => 0) ⟨#[], args, []⟩).memory :=
  laidMetH_of_parts3 (fuel := 8) (laidMet_of_run' 8 (by kernel_rfl) (by kernel_rfl)) (by kernel_rfl) (by kernel_rfl)
theorem laid_plain {w : World} (h : laidMetH Tryz.prog laidL w) : laidMet Tryz.prog laidL w := by
  rw [MakeChecks.laidMetH_plain _ _ _ (by kernel_rfl)] at h
  exact h
/-- the frame of a call without arguments -/
noncomputable def frameOf (f : FuncId) : AFrame := match FenterA AP f [] false with | some g => g | none => ⟨⟨0, 0, 0, false, none⟩, ⟨[], .leaf⟩, [], [], .run⟩
/-- is a run's end the value true? -/
def endsTrue (x : Option (AEnd × Heap)) : Bool := match x with | some (.ret (.bool true), _) => true | _ => false
theorem endsTrue_some {x : Option (AEnd × Heap)} (h : endsTrue x = true) : ∃ hp, x = some (.ret (.bool true), hp) := by
  unfold endsTrue at h
  split at h
  · exact ⟨_, rfl⟩
  · cases h
theorem law_enter : (FenterA AP 3 [] false).isSome = true := by kernel_rfl
end Go.Proofs.YtpbiidpdookbpaaGreatDoor
