/- The tie of this program to the evaluator: its tables, and what its listed variables hold when a call begins. -/
import Derived.Test.YtcibmhncdgoemaaGreatDoorChecked
import Derived.Test.YtcibmhncdgoemaaGreatDoorAbs6
import Derived.Test.YtcibmhncdgoemaaGreatDoorRows
import Derived.ProofKit
import Derived.LaidMore
import Derived.OpenShut
import Derived.Stop.Joined
set_option linter.unusedVariables false
set_option linter.unusedSimpArgs false
set_option linter.unusedSectionVars false
open Go Go.Abs
namespace Go.Proofs
def masksL : List Nat := [0, 0, 0, 243, 7, 129455, 13, 1023, 15027, 883, 51, 253, 61, 31, 31, 7881299347898415, 127, 15032418143, 32751, 1, 4194431, 255, 31, 3, 71, 5, 19, 5, 5, 1999, 14515, 23, 19, 499, 5, 3759939519, 5, 13, 13, 51, 51, 13, 115, 5, 13, 967, 115, 5, 371, 55, 15, 435, 5, 8070450539764122349, 30064771549, 13, 847, 383, 524047, 5, 939524141, 243, 243, 805306611, 234884973, 783, 33553439, 5, 755, 5, 13, 131059, 523295, 100663421, 19, 31, 5, 5, 15, 3, 19, 115, 1835051, 7, 5, 115, 509, 5, 3670111, 12339, 2097159, 541, 1, 199, 1991, 1991, 562949953429447, 199, 1991, 19, 1807, 3855, 5, 5, 5, 5, 19, 3103, 5, 5, 5, 5, 19, 7, 7, 199, 71, 15, 967, 5, 243, 11, 243, 11, 179, 39, 435, 11, 262331, 5, 51, 1, 1, 1, 1, 1, 1, 1, 1, 1, 1, 1, 1, 1, 1, 1, 1, 1, 1, 1, 1, 1, 1, 5, 1, 7696585064799, 5, 15, 51, 213, 5, 5, 29, 1, 13, 8070450532247929053, 13, 29, 61, 29, 253, 13, 5, 5, 5, 13, 13, 13, 29, 1, 783, 5, 5, 71, 1055, 0, 1039, 5, 5, 435, 783, 33553439, 435, 3911, 39, 19, 3, 5, 51, 5, 19, 5, 5, 5, 6087, 1279, 5, 58215, 23, 5, 3, 1055, 71, 443, 71, 4055, 51, 2003, 5, 14515, 6237, 64563608106274133427, 5, 985643454830023, 59, 22, 29, 19, 1055, 65735, 783, 3103, 435, 19, 19, 15, 29416735, 19, 47, 19, 15455, 71, 7, 29, 4039, 19, 115, 967, 19, 19, 4083, 58720303, 3, 51, 5, 19, 11, 11, 27, 1039, 3527, 435, 1109194275199700726309615318799, 435, 11, 119, 5, 0, 3, 2096159, 115, 3187, 15, 3187, 3187, 3187, 1, 19, 435, 3927, 47, 262215, 3, 7951, 7943, 36028797018996495, 775, 7951, 7199, 15391, 5, 979, 0, 0, 13, 3103, 271, 4159, 3103, 0, 0, 0, 0, 0, 0, 0, 0, 0, 0, 0, 0, 0, 0, 0, 0, 0, 0, 0, 0, 0, 0, 0, 0, 0, 0]

def plainL : List Nat := [7, 8, 27, 28, 30, 31, 39, 40, 44, 45, 54, 55, 59, 60, 83, 84, 98, 99, 133, 134, 138, 139, 141, 142, 143, 144, 145, 146, 154, 155, 161, 162, 166, 167, 169, 170, 184, 185, 195, 196, 197, 198, 199, 200, 214, 215, 219, 220, 244, 245, 266, 267, 307, 308, 316, 317, 322, 323]
noncomputable def AP : AProg := { types := FPTree_ofList TypeInfo Tryz.progTables.types.toList, funcs := FPTree_ofList Func Tryz.funcs.toList, masks := FPTree_ofList Nat masksL, apart := FPTree_put Unit (posOf 128) () PTree.leaf, clones := FPTree_put Unit (posOf 185) () PTree.leaf, plain := unitsAt plainL }
set_option maxRecDepth 100000
theorem AP_ok : AP.Ok Tryz.prog :=
  ok_of Tryz.progTables.types.toList Tryz.funcs.toList plainL 185 Tryz.f185 rfl rfl
    (by unfold AP; simp only; rw [FPTree_ofList_eq]) (by unfold AP; simp only; rw [FPTree_ofList_eq]) (by unfold AP; simp only; rw [FPTree_put_eq]) (by unfold AP; rfl)
    (by kernel_rfl) (by kernel_rfl) (by kernel_rfl) (by kernel_rfl) (by kernel_rfl) (by kernel_rfl) (by kernel_rfl) (by kernel_rfl) (by kernel_rfl)
end Go.Proofs
namespace Go.Proofs.YtcibmhncdgoemaaGreatDoor
open Go.ChangeShapes Go.WideShapes Go.ChangeAt Go.WideMaps Go.WideElems Go.RowKit Go.Abs

def laidL : List (String × DataW Unit) := [("math/bits.deBruijn32tab", Rows.laid_math_bits_deBruijn32tab), ("math/bits.deBruijn64tab", Rows.laid_math_bits_deBruijn64tab), ("internal/strconv.uint64pow10", Rows.laid_internal_strconv_uint64pow10), ("warder/types.rows", Rows.laid_warder_types_rows)]
theorem lows_some : (lowsOf Tryz.prog laidL).isSome = true := by kernel_rfl
noncomputable def lowsL : List (Nat × List AVal) := (lowsOf Tryz.prog laidL).getD []
theorem lows_eq : lowsOf Tryz.prog laidL = some lowsL := by
  unfold lowsL
  have := lows_some
  cases h : lowsOf Tryz.prog laidL with
  | none => rw [h] at this; cases this
  | some l => rfl
noncomputable def lowL : List (PTree AObj) := [lowTree lowsL]
theorem own : ownKnob Tryz.prog.godebug = none := by kernel_rfl

set_option maxRecDepth 100000
theorem door_met (os : Os) (args : Array Value) : laidMetH Tryz.prog laidL ((World.doorLaid Tryz.prog 4000 os).forCall (fun _ _ => 0) ⟨#[], args, []⟩).memory :=
  laidMetH_of_parts3 (fuel := 8) (laidMet_of_run' 8 (by kernel_rfl) (by kernel_rfl)) (by kernel_rfl) (by kernel_rfl)
theorem laid_plain {w : World} (h : laidMetH Tryz.prog laidL w) : laidMet Tryz.prog laidL w := by
  rw [MakeChecks.laidMetH_plain _ _ _ (by kernel_rfl)] at h
  exact h
end Go.Proofs.YtcibmhncdgoemaaGreatDoor
