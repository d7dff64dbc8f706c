/-
  CacheTicks: what the row's closed cells say of the program, each a fact of its own.
-/
import Derived.Test.YtehpafebpgndeaaGreatDoorCacheStart
namespace Go.Proofs.YtehpafebpgndeaaGreatDoor
set_option linter.unusedVariables false
set_option linter.unusedSimpArgs false
set_option linter.unnecessarySimpa false
open Go.ChangeShapes Go.WideShapes Go.ChangeAt Go.RowKit

theorem cacheTicks_j1 : (Rows.cacheTicksRow.inPlace == Tryz.pinned.checked.prog.inPlace 11) = true := by kernel_rfl
theorem cacheTicks_j2 : (Rows.cacheTicksRow.unfollowed == Tryz.pinned.checked.prog.unfollowed 11) = true := by kernel_rfl
theorem cacheTicks_j3 : (Rows.cacheTicksRow.recurses == Tryz.pinned.checked.prog.recurses 11) = true := by kernel_rfl
theorem cacheTicks_j4 : (Rows.cacheTicksRow.named == Tryz.pinned.checked.prog.varsNamed 11) = true := by kernel_rfl
theorem cacheTicks_closed : joinedFacts Tryz.pinned.checked.prog 11 Tryz.f11 (OpenSpec.ofChange Rows.cacheTicksSpec).bare Rows.cacheTicksRow = true := by
  unfold joinedFacts
  rw [cacheTicks_j1, cacheTicks_j2, cacheTicks_j3, cacheTicks_j4, start_laid, start_maps, start_may, start_final, start_make]
  kernel_rfl
end Go.Proofs.YtehpafebpgndeaaGreatDoor
