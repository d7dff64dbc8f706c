/-
  CacheErrs: what the row's closed cells say of the program, each a fact of its own.
-/
import Derived.Test.YtehpafebpgndeaaGreatDoorCacheStart
namespace Go.Proofs.YtehpafebpgndeaaGreatDoor
set_option linter.unusedVariables false
set_option linter.unusedSimpArgs false
set_option linter.unnecessarySimpa false
open Go.ChangeShapes Go.WideShapes Go.ChangeAt Go.RowKit

theorem cacheErrs_j1 : (Rows.cacheErrsRow.inPlace == Tryz.pinned.checked.prog.inPlace 17) = true := by kernel_rfl
theorem cacheErrs_j2 : (Rows.cacheErrsRow.unfollowed == Tryz.pinned.checked.prog.unfollowed 17) = true := by kernel_rfl
theorem cacheErrs_j3 : (Rows.cacheErrsRow.recurses == Tryz.pinned.checked.prog.recurses 17) = true := by kernel_rfl
theorem cacheErrs_j4 : (Rows.cacheErrsRow.named == Tryz.pinned.checked.prog.varsNamed 17) = true := by kernel_rfl
theorem cacheErrs_closed : joinedFacts Tryz.pinned.checked.prog 17 Tryz.f17 (OpenSpec.ofChange Rows.cacheErrsSpec).bare Rows.cacheErrsRow = true := by
  unfold joinedFacts
  rw [cacheErrs_j1, cacheErrs_j2, cacheErrs_j3, cacheErrs_j4, start_laid, start_maps, start_may, start_final, start_make]
  kernel_rfl
end Go.Proofs.YtehpafebpgndeaaGreatDoor
