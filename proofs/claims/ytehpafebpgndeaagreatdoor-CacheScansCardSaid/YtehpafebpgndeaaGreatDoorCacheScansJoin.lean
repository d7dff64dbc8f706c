/-
  CacheScans: what the row's closed cells say of the program, each a fact of its own.
-/
import Derived.Test.YtehpafebpgndeaaGreatDoorCacheStart
namespace Go.Proofs.YtehpafebpgndeaaGreatDoor
set_option linter.unusedVariables false
set_option linter.unusedSimpArgs false
set_option linter.unnecessarySimpa false
open Go.ChangeShapes Go.WideShapes Go.ChangeAt Go.RowKit

theorem cacheScans_j1 : (Rows.cacheScansRow.inPlace == Tryz.pinned.checked.prog.inPlace 8) = true := by kernel_rfl
theorem cacheScans_j2 : (Rows.cacheScansRow.unfollowed == Tryz.pinned.checked.prog.unfollowed 8) = true := by kernel_rfl
theorem cacheScans_j3 : (Rows.cacheScansRow.recurses == Tryz.pinned.checked.prog.recurses 8) = true := by kernel_rfl
theorem cacheScans_j4 : (Rows.cacheScansRow.named == Tryz.pinned.checked.prog.varsNamed 8) = true := by kernel_rfl
theorem cacheScans_closed : joinedFacts Tryz.pinned.checked.prog 8 Tryz.f8 (OpenSpec.ofChange Rows.cacheScansSpec).bare Rows.cacheScansRow = true := by
  unfold joinedFacts
  rw [cacheScans_j1, cacheScans_j2, cacheScans_j3, cacheScans_j4, start_laid, start_maps, start_may, start_final, start_make]
  kernel_rfl
end Go.Proofs.YtehpafebpgndeaaGreatDoor
