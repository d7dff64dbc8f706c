/-
  CacheBudget: what the row's closed cells say of the program, each a fact of its own.
-/
import Derived.Test.YtehpafebpgndeaaGreatDoorCacheStart
namespace Go.Proofs.YtehpafebpgndeaaGreatDoor
set_option linter.unusedVariables false
set_option linter.unusedSimpArgs false
set_option linter.unnecessarySimpa false
open Go.ChangeShapes Go.WideShapes Go.ChangeAt Go.RowKit

theorem cacheBudget_j1 : (Rows.cacheBudgetRow.inPlace == Tryz.pinned.checked.prog.inPlace 15) = true := by kernel_rfl
theorem cacheBudget_j2 : (Rows.cacheBudgetRow.unfollowed == Tryz.pinned.checked.prog.unfollowed 15) = true := by kernel_rfl
theorem cacheBudget_j3 : (Rows.cacheBudgetRow.recurses == Tryz.pinned.checked.prog.recurses 15) = true := by kernel_rfl
theorem cacheBudget_j4 : (Rows.cacheBudgetRow.named == Tryz.pinned.checked.prog.varsNamed 15) = true := by kernel_rfl
theorem cacheBudget_closed : joinedFacts Tryz.pinned.checked.prog 15 Tryz.f15 (OpenSpec.ofChange Rows.cacheBudgetSpec).bare Rows.cacheBudgetRow = true := by
  unfold joinedFacts
  rw [cacheBudget_j1, cacheBudget_j2, cacheBudget_j3, cacheBudget_j4, start_laid, start_maps, start_may, start_final, start_make]
  kernel_rfl
end Go.Proofs.YtehpafebpgndeaaGreatDoor
