/-
  CacheFlushes: what the row's closed cells say of the program, each a fact of its own.
-/
import Derived.Test.YtehpafebpgndeaaGreatDoorCacheStart
namespace Go.Proofs.YtehpafebpgndeaaGreatDoor
set_option linter.unusedVariables false
set_option linter.unusedSimpArgs false
set_option linter.unnecessarySimpa false
open Go.ChangeShapes Go.WideShapes Go.ChangeAt Go.RowKit

theorem cacheFlushes_j1 : (Rows.cacheFlushesRow.inPlace == Tryz.pinned.checked.prog.inPlace 13) = true := by kernel_rfl
theorem cacheFlushes_j2 : (Rows.cacheFlushesRow.unfollowed == Tryz.pinned.checked.prog.unfollowed 13) = true := by kernel_rfl
theorem cacheFlushes_j3 : (Rows.cacheFlushesRow.recurses == Tryz.pinned.checked.prog.recurses 13) = true := by kernel_rfl
theorem cacheFlushes_j4 : (Rows.cacheFlushesRow.named == Tryz.pinned.checked.prog.varsNamed 13) = true := by kernel_rfl
theorem cacheFlushes_closed : joinedFacts Tryz.pinned.checked.prog 13 Tryz.f13 (OpenSpec.ofChange Rows.cacheFlushesSpec).bare Rows.cacheFlushesRow = true := by
  unfold joinedFacts
  rw [cacheFlushes_j1, cacheFlushes_j2, cacheFlushes_j3, cacheFlushes_j4, start_laid, start_maps, start_may, start_final, start_make]
  kernel_rfl
end Go.Proofs.YtehpafebpgndeaaGreatDoor
