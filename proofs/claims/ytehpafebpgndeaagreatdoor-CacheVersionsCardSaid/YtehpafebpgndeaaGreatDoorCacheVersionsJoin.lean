/-
  CacheVersions: what the row's closed cells say of the program, each a fact of its own.
-/
import Derived.Test.YtehpafebpgndeaaGreatDoorCacheStart
namespace Go.Proofs.YtehpafebpgndeaaGreatDoor
set_option linter.unusedVariables false
set_option linter.unusedSimpArgs false
set_option linter.unnecessarySimpa false
open Go.ChangeShapes Go.WideShapes Go.ChangeAt Go.RowKit

theorem cacheVersions_j1 : (Rows.cacheVersionsRow.inPlace == Tryz.pinned.checked.prog.inPlace 10) = true := by kernel_rfl
theorem cacheVersions_j2 : (Rows.cacheVersionsRow.unfollowed == Tryz.pinned.checked.prog.unfollowed 10) = true := by kernel_rfl
theorem cacheVersions_j3 : (Rows.cacheVersionsRow.recurses == Tryz.pinned.checked.prog.recurses 10) = true := by kernel_rfl
theorem cacheVersions_j4 : (Rows.cacheVersionsRow.named == Tryz.pinned.checked.prog.varsNamed 10) = true := by kernel_rfl
theorem cacheVersions_closed : joinedFacts Tryz.pinned.checked.prog 10 Tryz.f10 (OpenSpec.ofChange Rows.cacheVersionsSpec).bare Rows.cacheVersionsRow = true := by
  unfold joinedFacts
  rw [cacheVersions_j1, cacheVersions_j2, cacheVersions_j3, cacheVersions_j4, start_laid, start_maps, start_may, start_final, start_make]
  kernel_rfl
end Go.Proofs.YtehpafebpgndeaaGreatDoor
