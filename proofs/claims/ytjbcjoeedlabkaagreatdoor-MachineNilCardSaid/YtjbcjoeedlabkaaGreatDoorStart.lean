/- The tie of this program to the evaluator: its tables, and what its listed variables hold when a call begins. -/
import Derived.Test.YtjbcjoeedlabkaaGreatDoorChecked
import Derived.Test.YtjbcjoeedlabkaaGreatDoorRows
import Derived.Test.YtjbcjoeedlabkaaGreatDoorAbs6
import Derived.ProofKit
import Derived.LaidMore
import Derived.OpenShut
import Derived.Stop.Joined
set_option linter.unusedVariables false
set_option linter.unusedSimpArgs false
set_option linter.unusedSectionVars false
open Go Go.Abs
namespace Go.Proofs.YtjbcjoeedlabkaaGreatDoor
open Go.ChangeShapes Go.WideShapes Go.ChangeAt Go.WideMaps Go.WideElems Go.RowKit
def masksL : List Nat := [0, 0, 0, 1495, 1019, 201326719, 117442551, 1, 5, 7189, 5, 19, 5, 5, 19, 255, 1, 5, 7, 63, 5, 5, 19, 5, 4194431, 32735, 71, 71, 5, 5, 55, 7, 1, 125, 3145789, 3145789, 199, 100663421, 13, 13, 435, 13, 13, 51, 51, 5, 6927, 13, 435, 31, 481036337245, 5, 14680191, 19, 5, 13, 3145789, 19, 7, 7, 199, 13, 243, 243, 5, 5, 51, 5, 7, 29, 1083, 115, 464671, 1, 524047, 5, 5, 43, 5, 51, 63054243308766557, 7, 2007, 435, 5, 19, 30064771549, 11, 15, 13, 199, 247, 1011, 243, 7, 199, 1, 28863, 15, 271, 499, 7251, 51, 1, 1610612859, 199, 1991, 1991, 562949953429447, 199, 1991, 19, 1807, 3855, 5, 5, 5, 13, 27, 31, 31, 60129568543, 7, 5, 1019, 2096223, 115, 189, 61, 64495, 5, 115, 509, 5, 3670111, 12339, 258254417031948402851, 199, 1, 5, 51, 1, 15, 3, 23, 31, 5, 51, 59, 5, 243, 83, 999, 4047, 379, 5, 31, 23, 27, 5, 15, 783, 5, 5, 71, 1055, 5, 5, 215, 87, 7, 87, 7, 917615, 5, 7, 19, 27, 125, 56668397794435742572029, 271, 2007, 483, 19, 6191, 111, 58720303, 5, 5, 98333, 29, 119, 7, 5, 1, 43, 51, 1, 1, 1, 1, 1, 1, 1, 1, 1, 1, 1, 1, 1, 1, 1, 1, 1, 1, 1, 1, 1, 1, 5, 1, 2097159, 114733, 27, 16499, 71, 19, 30786325577907, 71, 19, 19, 1007, 59, 117486143, 47, 5, 29, 39, 7, 23, 63, 15, 1023, 87, 3, 5, 119, 7251, 402780111, 59, 61, 247, 131127, 435, 15, 5, 783, 5, 4183, 31, 5, 5, 5, 5, 229419, 5, 13, 7, 5, 5, 983, 19, 5, 59, 19, 23, 215, 5, 15, 234884973, 3187, 15, 3187, 3187, 3187, 3, 4071, 3565, 229, 229, 485, 493, 229, 1509, 237, 493, 229, 229, 6631, 3, 13, 5, 805306611, 115, 51, 7696585064799, 5, 51, 213, 5, 5, 5, 455, 199, 435, 34359739387, 123, 5, 31, 61, 30064771165, 253, 524317, 15, 3, 31, 3, 63, 3, 123, 1, 61, 1, 495, 15, 15, 1, 31, 3, 127, 3, 7, 7, 7, 3, 3, 7, 13, 3, 63, 19, 243, 15, 27, 111, 5, 3, 5, 19, 63, 4095, 59, 507, 7, 5, 5, 0, 5, 43, 5, 435, 3, 5, 19, 19, 979, 15079, 96079, 2007, 39, 71, 271, 15, 2959, 7, 3, 64543, 3, 55, 15, 455, 7, 3, 4039, 1807, 5, 5, 7, 23, 32895, 251, 7, 1, 11, 19, 55, 19, 7, 87, 61, 7, 5, 59, 23, 234884973, 28851, 1, 87, 303, 5, 245, 5, 19, 23, 27, 13, 215, 1023, 191, 115, 3, 1, 15, 31, 127, 5, 31, 5, 243, 63, 1021, 1, 61, 6237, 64563608106274133427, 5, 5, 271, 127, 517, 29, 15, 7, 8191, 31, 15, 7, 31, 31, 15, 31, 29, 31, 243, 243, 11, 7, 443, 79, 199, 3, 247, 19, 3031, 271, 51, 29, 503, 5, 3, 1, 4055, 31, 967, 199, 5, 435, 19, 3855, 59, 19, 5, 19, 443, 15455, 19, 11, 1023, 51, 31, 13, 7, 31, 30064778751, 61, 29, 119, 13, 3, 51, 5, 5, 5, 29, 469762141, 4095, 126111, 63, 127, 435, 3527, 125, 125, 5, 371, 119, 5, 359, 493, 115, 115, 0, 3, 5, 5, 12339, 7, 435, 29, 3, 1, 19, 755, 1, 5, 8384703, 5, 3, 11, 0, 0, 5, 13, 131059, 523295, 201327355, 3123, 435, 15, 399, 13, 5, 5, 5, 5, 5, 5, 0, 0, 0, 0, 0, 0, 0, 0, 0, 0, 0, 0, 0, 0, 0, 0, 0, 0, 0, 0, 0, 0, 0, 0, 0, 0, 0, 0, 0, 0, 0, 0, 0, 0, 0, 0, 0, 0, 0]
def plainL : List Nat := [7, 8, 32, 33, 38, 39, 40, 41, 45, 46, 47, 48, 51, 52, 56, 57, 59, 60, 63, 64, 82, 83, 85, 86, 94, 95, 99, 100, 111, 112, 122, 123, 124, 125, 127, 128, 132, 133, 161, 162, 169, 170, 171, 172, 174, 175, 176, 177, 179, 180, 181, 182, 184, 185, 186, 187, 191, 192, 193, 194, 195, 196, 199, 200, 202, 203, 218, 219, 220, 221, 224, 225, 228, 229, 230, 231, 247, 248, 250, 251, 252, 253, 262, 263, 309, 310, 316, 317, 348, 349, 372, 373, 375, 376, 381, 382, 385, 386, 397, 398, 402, 403, 408, 409, 414, 415, 418, 419, 421, 422, 441, 442, 458, 459, 461, 462, 488, 489, 492, 493, 495, 496, 498, 499, 501, 502, 550, 551, 605, 606, 622, 623, 628, 629, 636]
noncomputable def AP : AProg := { types := FPTree_ofList TypeInfo Tryz.progTables.types.toList, funcs := FPTree_ofList Func Tryz.funcs.toList, masks := FPTree_ofList Nat masksL, apart := FPTree_put Unit (posOf 266) () (FPTree_put Unit (posOf 224) () (FPTree_put Unit (posOf 101) () (PTree.leaf))), clones := FPTree_put Unit (posOf 366) () PTree.leaf, plain := unitsAt plainL }
set_option maxRecDepth 100000
theorem AP_ok : AP.Ok Tryz.prog :=
  ok_of Tryz.progTables.types.toList Tryz.funcs.toList plainL 366 Tryz.f366 rfl rfl
    (by unfold AP; simp only; rw [FPTree_ofList_eq]) (by unfold AP; simp only; rw [FPTree_ofList_eq]) (by unfold AP; simp only; rw [FPTree_put_eq]) (by unfold AP; rfl)
    (by kernel_rfl) (by kernel_rfl) (by kernel_rfl) (by kernel_rfl) (by kernel_rfl) (by kernel_rfl) (by kernel_rfl) (by kernel_rfl) (by kernel_rfl)
def laidL : List (String × DataW Unit) := [("math/bits.deBruijn32tab", Rows.laid_math_bits_deBruijn32tab), ("math/bits.deBruijn64tab", Rows.laid_math_bits_deBruijn64tab), ("internal/strconv.uint64pow10", Rows.laid_internal_strconv_uint64pow10), ("warder/types.rows", Rows.laid_warder_types_rows)]
theorem lows_some : (lowsOf Tryz.prog laidL).isSome = true := by kernel_rfl
noncomputable def lowsL : List (Nat × List AVal) := (lowsOf Tryz.prog laidL).getD []
theorem lows_eq : lowsOf Tryz.prog laidL = some lowsL := by
  unfold lowsL
  have := lows_some
  cases h : lowsOf Tryz.prog laidL with
  | none => rw [h] at this; cases this
  | some l => rfl
noncomputable def lowL : List (PTree AObj) := [lowTree lowsL]
theorem own : ownKnob Tryz.prog.godebug = none := by kernel_rfl
theorem door_met (os : Os) (args : Array Value) : laidMetH Tryz.prog laidL ((World.doorLaid Tryz.prog 4000 os).forCall (fun _ _ => 0) ⟨#[], args, []⟩).memory :=
  laidMetH_of_parts3 (fuel := 8) (laidMet_of_run' 8 (by kernel_rfl) (by kernel_rfl)) (by kernel_rfl) (by kernel_rfl)
theorem laid_plain {w : World} (h : laidMetH Tryz.prog laidL w) : laidMet Tryz.prog laidL w := by
  rw [MakeChecks.laidMetH_plain _ _ _ (by kernel_rfl)] at h
  exact h
/-- the frame of a call without arguments -/
noncomputable def frameOf (f : FuncId) : AFrame := match FenterA AP f [] false with | some g => g | none => ⟨⟨0, 0, 0, false, none⟩, ⟨[], .leaf⟩, [], [], .run⟩
/-- is a run's end the value true? -/
def endsTrue (x : Option (AEnd × Heap)) : Bool := match x with | some (.ret (.bool true), _) => true | _ => false
theorem endsTrue_some {x : Option (AEnd × Heap)} (h : endsTrue x = true) : ∃ hp, x = some (.ret (.bool true), hp) := by
  unfold endsTrue at h
  split at h
  · exact ⟨_, rfl⟩
  · cases h
theorem law_enter : (FenterA AP 3 [] false).isSome = true := by kernel_rfl
end Go.Proofs.YtjbcjoeedlabkaaGreatDoor
