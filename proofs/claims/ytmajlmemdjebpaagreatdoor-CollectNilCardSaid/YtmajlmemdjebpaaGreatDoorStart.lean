/- The tie of this program to the evaluator: its tables, and what its listed variables hold when a call begins. -/
import Derived.Test.YtmajlmemdjebpaaGreatDoorChecked
import Derived.Test.YtmajlmemdjebpaaGreatDoorRows
import Derived.Test.YtmajlmemdjebpaaGreatDoorAbs7
import Derived.ProofKit
import Derived.LaidMore
import Derived.OpenShut
import Derived.Stop.Joined
set_option linter.unusedVariables false
set_option linter.unusedSimpArgs false
set_option linter.unusedSectionVars false
open Go Go.Abs
namespace Go.Proofs.YtmajlmemdjebpaaGreatDoor
open Go.ChangeShapes Go.WideShapes Go.ChangeAt Go.WideMaps Go.WideElems Go.RowKit
def masksL : List Nat := [0, 0, 0, 8171, 14680191, 1805, 127, 1807, 29, 115, 183, 5, 43, 5, 51, 63054243308766557, 7, 2007, 5, 5, 23, 63, 15, 5, 98299, 64495, 1011, 5, 5, 13, 27, 31, 31, 60129568543, 7, 5, 1019, 5, 2096223, 115, 189, 61, 253, 55, 7, 1, 125, 3145789, 3145789, 199, 100663421, 13, 13, 199, 13, 51, 481036337245, 61, 51, 19, 30786325577907, 243, 13, 4835703278458516698824955, 4294967767, 262615, 34359742287, 7696588734811, 1, 51, 43, 1, 51, 59, 5, 215, 87, 7, 87, 7, 917615, 5, 5, 7, 19, 27, 125, 56668397794435742572029, 271, 2007, 12339, 483, 19, 6191, 111, 58720303, 5, 5, 98333, 29, 119, 7, 5, 19, 5, 13, 3145789, 19, 7, 7, 199, 115, 464671, 243, 51, 19, 125, 19, 19, 243, 15, 19, 115, 5, 1991, 13, 455, 127, 51, 455, 8151, 252959, 3919, 903, 391, 19, 16785367, 27, 234884973, 4071, 3565, 229, 229, 485, 493, 229, 1509, 237, 493, 229, 229, 6631, 5, 19, 1610612859, 243, 87, 3, 4183, 31, 5, 5, 5, 5, 229419, 5, 5, 13, 7, 5, 5, 983, 19, 5, 59, 19, 23, 215, 5, 15, 234884973, 3187, 15, 3187, 3187, 3187, 3, 435, 13, 199, 247, 243, 7, 199, 1, 28863, 15, 271, 499, 7251, 51, 1, 29, 243, 271, 243, 253, 5, 5, 13, 83, 499, 115, 71, 63, 115, 13, 243, 5, 1021, 61, 243, 8384703, 32591, 1807, 487, 115, 51, 71, 1807, 7199, 7, 71, 19, 15079, 96079, 2007, 39, 71, 271, 15, 2959, 7, 3, 64543, 3, 55, 15, 455, 7, 3, 4039, 1807, 15, 5, 507, 7, 5, 5, 0, 5, 5, 43, 5, 435, 3, 5, 19, 19, 979, 5, 83, 999, 4047, 379, 5, 31, 23, 27, 19, 243, 509, 967, 19, 29, 61, 5, 29, 114733, 119, 13, 5, 201327355, 3123, 435, 15, 399, 271, 51, 5, 455, 51, 3031, 271, 51, 29, 503, 3, 51, 1, 7251, 402780111, 4055, 31, 967, 199, 5, 247, 524047, 5, 19, 119, 59, 61, 247, 131127, 435, 15, 8183, 32735, 199, 3, 71, 87, 125, 125, 5, 5, 371, 119, 5, 359, 5, 19, 63, 4095, 493, 115, 115, 0, 3, 199, 1991, 1991, 562949953429447, 199, 1991, 19, 1807, 3855, 5, 5, 3527, 3, 59, 51, 7, 65535, 5, 61, 199, 5, 5, 3, 783, 5, 5, 71, 1055, 3, 479, 13, 783, 0, 0, 0, 0, 0, 0, 0, 0, 0, 0, 0, 0, 0, 0, 0, 0, 0, 0, 0, 0, 0, 0, 0, 0, 0, 0, 0, 0, 0, 0, 0, 0, 0, 0, 0, 0, 0, 0, 0, 0]
def plainL : List Nat := [7, 8, 24, 25, 34, 35, 38, 39, 50, 51, 65, 66, 70, 71, 73, 74, 75, 76, 83, 84, 88, 89, 94, 95, 96, 97, 102, 103, 104, 105, 110, 111, 113, 114, 134, 135, 159, 160, 165, 166, 182, 183, 190, 191, 197, 198, 201, 202, 206, 207, 209, 210, 214, 215, 217, 218, 230, 231, 233, 234, 240, 241, 244, 245, 258, 259, 260, 261, 265, 266, 272, 273, 274, 275, 279, 280, 281, 282, 283, 284, 287, 288, 290, 291, 295, 296, 298, 299, 314, 315, 322, 323, 328, 329, 331, 332, 350, 351, 356, 357, 366, 367, 435, 436, 441, 442, 473, 474, 480, 481, 484, 485, 497, 529, 530, 535, 536, 566, 567, 571, 572]
noncomputable def AP : AProg := { types := FPTree_ofList TypeInfo Tryz.progTables.types.toList, funcs := FPTree_ofList Func Tryz.funcs.toList, masks := FPTree_ofList Nat masksL, apart := FPTree_put Unit (posOf 199) () (FPTree_put Unit (posOf 167) () (PTree.leaf)), clones := FPTree_put Unit (posOf 259) () PTree.leaf, plain := unitsAt plainL }
set_option maxRecDepth 100000
theorem AP_ok : AP.Ok Tryz.prog :=
  ok_of Tryz.progTables.types.toList Tryz.funcs.toList plainL 259 Tryz.f259 rfl rfl
    (by unfold AP; simp only; rw [FPTree_ofList_eq]) (by unfold AP; simp only; rw [FPTree_ofList_eq]) (by unfold AP; simp only; rw [FPTree_put_eq]) (by unfold AP; rfl)
    (by kernel_rfl) (by kernel_rfl) (by kernel_rfl) (by kernel_rfl) (by kernel_rfl) (by kernel_rfl) (by kernel_rfl) (by kernel_rfl) (by kernel_rfl)
def laidL : List (String × DataW Unit) := [("warder/types.rows", Rows.laid_warder_types_rows)]
theorem lows_some : (lowsOf Tryz.prog laidL).isSome = true := by kernel_rfl
noncomputable def lowsL : List (Nat × List AVal) := (lowsOf Tryz.prog laidL).getD []
theorem lows_eq : lowsOf Tryz.prog laidL = some lowsL := by
  unfold lowsL
  have := lows_some
  cases h : lowsOf Tryz.prog laidL with
  | none => rw [h] at this; cases this
  | some l => rfl
noncomputable def lowL : List (PTree AObj) := [lowTree lowsL]
theorem own : ownKnob Tryz.prog.godebug = none := by kernel_rfl
theorem door_met (os : Os) (args : Array Value) : laidMetH Tryz.prog laidL ((World.doorLaid Tryz.prog 4000 os).forCall (fun _ _ => 0) ⟨#[], args, []⟩).memory :=
  laidMetH_of_parts3 (fuel := 8) (laidMet_of_run' 8 (by kernel_rfl) (by kernel_rfl)) (by kernel_rfl) (by kernel_rfl)
theorem laid_plain {w : World} (h : laidMetH Tryz.prog laidL w) : laidMet Tryz.prog laidL w := by
  rw [MakeChecks.laidMetH_plain _ _ _ (by kernel_rfl)] at h
  exact h
/-- the frame of a call without arguments -/
noncomputable def frameOf (f : FuncId) : AFrame := match FenterA AP f [] false with | some g => g | none => ⟨⟨0, 0, 0, false, none⟩, ⟨[], .leaf⟩, [], [], .run⟩
/-- is a run's end the value true? -/
def endsTrue (x : Option (AEnd × Heap)) : Bool := match x with | some (.ret (.bool true), _) => true | _ => false
theorem endsTrue_some {x : Option (AEnd × Heap)} (h : endsTrue x = true) : ∃ hp, x = some (.ret (.bool true), hp) := by
  unfold endsTrue at h
  split at h
  · exact ⟨_, rfl⟩
  · cases h
theorem law_enter : (FenterA AP 3 [] false).isSome = true := by kernel_rfl
end Go.Proofs.YtmajlmemdjebpaaGreatDoor
