/-
  CacheParts: what the row's closed cells say of the program, each a fact of its own.
-/
import Derived.Test.YtehpafebpgndeaaGreatDoorCacheStart
namespace Go.Proofs.YtehpafebpgndeaaGreatDoor
set_option linter.unusedVariables false
set_option linter.unusedSimpArgs false
set_option linter.unnecessarySimpa false
open Go.ChangeShapes Go.WideShapes Go.ChangeAt Go.RowKit

theorem cacheParts_j1 : (Rows.cachePartsRow.inPlace == Tryz.pinned.checked.prog.inPlace 18) = true := by kernel_rfl
theorem cacheParts_j2 : (Rows.cachePartsRow.unfollowed == Tryz.pinned.checked.prog.unfollowed 18) = true := by kernel_rfl
theorem cacheParts_j3 : (Rows.cachePartsRow.recurses == Tryz.pinned.checked.prog.recurses 18) = true := by kernel_rfl
theorem cacheParts_j4 : (Rows.cachePartsRow.named == Tryz.pinned.checked.prog.varsNamed 18) = true := by kernel_rfl
theorem cacheParts_closed : joinedFacts Tryz.pinned.checked.prog 18 Tryz.f18 (OpenSpec.ofChange Rows.cachePartsSpec).bare Rows.cachePartsRow = true := by
  unfold joinedFacts
  rw [cacheParts_j1, cacheParts_j2, cacheParts_j3, cacheParts_j4, start_laid, start_maps, start_may, start_final, start_make]
  kernel_rfl
end Go.Proofs.YtehpafebpgndeaaGreatDoor
