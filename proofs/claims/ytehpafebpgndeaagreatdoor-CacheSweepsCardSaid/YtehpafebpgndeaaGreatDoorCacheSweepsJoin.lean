/-
  CacheSweeps: what the row's closed cells say of the program, each a fact of its own.
-/
import Derived.Test.YtehpafebpgndeaaGreatDoorCacheStart
namespace Go.Proofs.YtehpafebpgndeaaGreatDoor
set_option linter.unusedVariables false
set_option linter.unusedSimpArgs false
set_option linter.unnecessarySimpa false
open Go.ChangeShapes Go.WideShapes Go.ChangeAt Go.RowKit

theorem cacheSweeps_j1 : (Rows.cacheSweepsRow.inPlace == Tryz.pinned.checked.prog.inPlace 14) = true := by kernel_rfl
theorem cacheSweeps_j2 : (Rows.cacheSweepsRow.unfollowed == Tryz.pinned.checked.prog.unfollowed 14) = true := by kernel_rfl
theorem cacheSweeps_j3 : (Rows.cacheSweepsRow.recurses == Tryz.pinned.checked.prog.recurses 14) = true := by kernel_rfl
theorem cacheSweeps_j4 : (Rows.cacheSweepsRow.named == Tryz.pinned.checked.prog.varsNamed 14) = true := by kernel_rfl
theorem cacheSweeps_closed : joinedFacts Tryz.pinned.checked.prog 14 Tryz.f14 (OpenSpec.ofChange Rows.cacheSweepsSpec).bare Rows.cacheSweepsRow = true := by
  unfold joinedFacts
  rw [cacheSweeps_j1, cacheSweeps_j2, cacheSweeps_j3, cacheSweeps_j4, start_laid, start_maps, start_may, start_final, start_make]
  kernel_rfl
end Go.Proofs.YtehpafebpgndeaaGreatDoor
