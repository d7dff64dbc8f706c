/-
  CacheThere: what the row's closed cells say of the program, each a fact of its own.
-/
import Derived.Test.YtehpafebpgndeaaGreatDoorCacheStart
namespace Go.Proofs.YtehpafebpgndeaaGreatDoor
set_option linter.unusedVariables false
set_option linter.unusedSimpArgs false
set_option linter.unnecessarySimpa false
open Go.ChangeShapes Go.WideShapes Go.ChangeAt Go.RowKit

theorem cacheThere_j1 : (Rows.cacheThereRow.inPlace == Tryz.pinned.checked.prog.inPlace 5) = true := by kernel_rfl
theorem cacheThere_j2 : (Rows.cacheThereRow.unfollowed == Tryz.pinned.checked.prog.unfollowed 5) = true := by kernel_rfl
theorem cacheThere_j3 : (Rows.cacheThereRow.recurses == Tryz.pinned.checked.prog.recurses 5) = true := by kernel_rfl
theorem cacheThere_j4 : (Rows.cacheThereRow.named == Tryz.pinned.checked.prog.varsNamed 5) = true := by kernel_rfl
theorem cacheThere_closed : joinedFacts Tryz.pinned.checked.prog 5 Tryz.f5 (OpenSpec.ofChange Rows.cacheThereSpec).bare Rows.cacheThereRow = true := by
  unfold joinedFacts
  rw [cacheThere_j1, cacheThere_j2, cacheThere_j3, cacheThere_j4, start_laid, start_maps, start_may, start_final, start_make]
  kernel_rfl
end Go.Proofs.YtehpafebpgndeaaGreatDoor
