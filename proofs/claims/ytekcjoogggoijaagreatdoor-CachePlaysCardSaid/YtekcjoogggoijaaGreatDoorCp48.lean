/-
  The limbs of the rows' closed cells that read the program's start word: the word as a list of signs first (the kernel has no end over the string itself). (Printed by wip/tools/gen_start.py.)
-/
import Derived.Test.YtekcjoogggoijaaGreatDoorRows
import Derived.ProofKit
set_option linter.unusedVariables false
set_option linter.unusedSimpArgs false
set_option linter.unnecessarySimpa false
namespace Go.Proofs.YtekcjoogggoijaaGreatDoor
open Go.ChangeShapes Go.WideShapes Go.ChangeAt Go.RowKit
set_option maxRecDepth 100000

/-- The start word's signs. -/
def startCs : List Char := ([104, 97, 114, 110, 101, 115, 115, 32, 48, 56, 97, 56, 102, 53, 54, 54, 100, 52, 52, 101, 51, 55, 53, 54, 98, 100, 51, 51, 57, 54, 53, 51, 50, 53, 102, 97, 56, 100, 51, 97, 48, 52, 98, 53, 56, 55, 98, 101, 97, 57, 51, 50, 97, 101, 53, 48, 54, 100, 97, 100, 51, 100, 97, 99, 49, 98, 51, 99, 50, 97, 98, 53, 32, 99, 117, 116, 32, 97, 116, 32, 101, 115, 99, 117, 116, 99, 104, 101, 111, 110, 47, 101, 115, 99, 117, 116, 99, 104, 101, 111, 110, 108, 97, 119, 50, 49, 46, 67, 97, 99, 104, 101, 80, 108, 97, 121, 115] : List Nat).map Char.ofNat
def startRest : List (List Char) := (behindMainWord (wordsSigns startCs)).tail
theorem start_signs : Tryz.pinned.checked.prog.initOrder.toList = startCs :=
  (congrArg String.toList (show Tryz.pinned.checked.prog.initOrder = String.ofList startCs from by unfold startCs; kernel_rfl)).trans (String.toList_ofList)
theorem start_words : behindMainWord (wordsSigns startCs) = "cut".toList :: startRest := by kernel_rfl
theorem start_strip : stripLifts liftWords ("cut".toList :: startRest) = ([], "cut".toList :: startRest) := by kernel_rfl
theorem start_later : Tryz.pinned.checked.prog.laysLater = false := by kernel_rfl
theorem start_refl : Tryz.pinned.checked.prog.bearsReflect = false := by kernel_rfl
theorem start_door : Tryz.pinned.checked.prog.doorFits [] = true := by kernel_rfl
theorem start_gc : ("cut".toList == "gc".toList) = false := by decide +kernel
theorem start_spec : ("cut".toList == "spec".toList) = false := by decide +kernel
theorem start_carried : ("cut".toList == "carried".toList) = false := by decide +kernel
theorem start_cut : ("cut".toList == "cut".toList) = true := by decide +kernel
theorem start_cut2 : (some ("cut".toList) == some "cut".toList) = true := by decide +kernel
theorem may_of (P : Program) (rest : List (List Char)) (h1 : behindMainWord (wordsSigns P.initOrder.toList) = "cut".toList :: rest) (h2 : stripLifts liftWords ("cut".toList :: rest) = ([], "cut".toList :: rest)) (h3 : P.laysLater = false) (h4 : P.bearsReflect = false) (h5 : P.doorFits [] = true) : P.mayEnter = true := by
  unfold Program.mayEnter
  rw [h1]
  simp at h2
  simp [h2, h3, h4, h5]
theorem make_of (P : Program) (rest : List (List Char)) (h1 : behindMainWord (wordsSigns P.initOrder.toList) = "cut".toList :: rest) : P.make = some .cut := by
  unfold Program.make
  rw [h1]
  simp [start_gc, start_spec, start_cut]
theorem final_of (P : Program) (rest : List (List Char)) (h1 : behindMainWord (wordsSigns P.initOrder.toList) = "cut".toList :: rest) (h2 : stripLifts liftWords ("cut".toList :: rest) = ([], "cut".toList :: rest)) : P.liftsFinal = false := by
  unfold Program.liftsFinal Program.headLifts
  rw [h1]
  simp at h2
  simp [h2]
theorem start_one : behindMainWord (wordsSigns Tryz.pinned.checked.prog.initOrder.toList) = "cut".toList :: startRest :=
  (congrArg (fun l => behindMainWord (wordsSigns l)) start_signs).trans start_words
theorem start_may : Tryz.pinned.checked.prog.mayEnter = true := may_of _ _ start_one start_strip start_later start_refl start_door
theorem start_make : Tryz.pinned.checked.prog.make = some .cut := make_of _ _ start_one
theorem start_final : Tryz.pinned.checked.prog.liftsFinal = false := final_of _ _ start_one start_strip
theorem main_of (P : Program) (h s : List Char) (rest : List (List Char)) (h1 : wordsSigns P.initOrder.toList = h :: s :: rest) (h2 : isSumSigns s = true) (h3 : (h == "harness".toList) = true) : P.mainIs = some (true, s) := by
  unfold Program.mainIs
  rw [h1]
  simp only [h2, h3, Bool.not_true, Bool.false_eq_true, if_false, if_true]
def startSum : List Char := (wordsSigns startCs).tail.headD []
theorem start_main : Tryz.pinned.checked.prog.mainIs = some (true, startSum) :=
  main_of _ ((wordsSigns startCs).headD []) startSum (wordsSigns startCs).tail.tail ((congrArg wordsSigns start_signs).trans (by kernel_rfl)) (by kernel_rfl) (by kernel_rfl)
theorem start_sum : startSum = "08a8f566d44e3756bd33965325fa8d3a04b587bea932ae506dad3dac1b3c2ab5".toList := by kernel_rfl
theorem start_laid : laidOutB Tryz.pinned.checked.prog = true := by kernel_rfl
theorem start_maps : mapsRowed Tryz.pinned.checked.prog = true := by kernel_rfl
end Go.Proofs.YtekcjoogggoijaaGreatDoor
