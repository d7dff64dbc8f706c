/-
  CacheCounts: what the row's closed cells say of the program, each a fact of its own.
-/
import Derived.Test.YtehpafebpgndeaaGreatDoorCacheStart
namespace Go.Proofs.YtehpafebpgndeaaGreatDoor
set_option linter.unusedVariables false
set_option linter.unusedSimpArgs false
set_option linter.unnecessarySimpa false
open Go.ChangeShapes Go.WideShapes Go.ChangeAt Go.RowKit

theorem cacheCounts_j1 : (Rows.cacheCountsRow.inPlace == Tryz.pinned.checked.prog.inPlace 7) = true := by kernel_rfl
theorem cacheCounts_j2 : (Rows.cacheCountsRow.unfollowed == Tryz.pinned.checked.prog.unfollowed 7) = true := by kernel_rfl
theorem cacheCounts_j3 : (Rows.cacheCountsRow.recurses == Tryz.pinned.checked.prog.recurses 7) = true := by kernel_rfl
theorem cacheCounts_j4 : (Rows.cacheCountsRow.named == Tryz.pinned.checked.prog.varsNamed 7) = true := by kernel_rfl
theorem cacheCounts_closed : joinedFacts Tryz.pinned.checked.prog 7 Tryz.f7 (OpenSpec.ofChange Rows.cacheCountsSpec).bare Rows.cacheCountsRow = true := by
  unfold joinedFacts
  rw [cacheCounts_j1, cacheCounts_j2, cacheCounts_j3, cacheCounts_j4, start_laid, start_maps, start_may, start_final, start_make]
  kernel_rfl
end Go.Proofs.YtehpafebpgndeaaGreatDoor
