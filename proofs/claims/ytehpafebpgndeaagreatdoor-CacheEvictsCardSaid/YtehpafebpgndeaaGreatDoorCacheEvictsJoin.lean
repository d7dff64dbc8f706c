/-
  CacheEvicts: what the row's closed cells say of the program, each a fact of its own.
-/
import Derived.Test.YtehpafebpgndeaaGreatDoorCacheStart
namespace Go.Proofs.YtehpafebpgndeaaGreatDoor
set_option linter.unusedVariables false
set_option linter.unusedSimpArgs false
set_option linter.unnecessarySimpa false
open Go.ChangeShapes Go.WideShapes Go.ChangeAt Go.RowKit

theorem cacheEvicts_j1 : (Rows.cacheEvictsRow.inPlace == Tryz.pinned.checked.prog.inPlace 20) = true := by kernel_rfl
theorem cacheEvicts_j2 : (Rows.cacheEvictsRow.unfollowed == Tryz.pinned.checked.prog.unfollowed 20) = true := by kernel_rfl
theorem cacheEvicts_j3 : (Rows.cacheEvictsRow.recurses == Tryz.pinned.checked.prog.recurses 20) = true := by kernel_rfl
theorem cacheEvicts_j4 : (Rows.cacheEvictsRow.named == Tryz.pinned.checked.prog.varsNamed 20) = true := by kernel_rfl
theorem cacheEvicts_closed : joinedFacts Tryz.pinned.checked.prog 20 Tryz.f20 (OpenSpec.ofChange Rows.cacheEvictsSpec).bare Rows.cacheEvictsRow = true := by
  unfold joinedFacts
  rw [cacheEvicts_j1, cacheEvicts_j2, cacheEvicts_j3, cacheEvicts_j4, start_laid, start_maps, start_may, start_final, start_make]
  kernel_rfl
end Go.Proofs.YtehpafebpgndeaaGreatDoor
