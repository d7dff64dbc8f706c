/-
  CacheExpires: what the row's closed cells say of the program, each a fact of its own.
-/
import Derived.Test.YtehpafebpgndeaaGreatDoorCacheStart
namespace Go.Proofs.YtehpafebpgndeaaGreatDoor
set_option linter.unusedVariables false
set_option linter.unusedSimpArgs false
set_option linter.unnecessarySimpa false
open Go.ChangeShapes Go.WideShapes Go.ChangeAt Go.RowKit

theorem cacheExpires_j1 : (Rows.cacheExpiresRow.inPlace == Tryz.pinned.checked.prog.inPlace 6) = true := by kernel_rfl
theorem cacheExpires_j2 : (Rows.cacheExpiresRow.unfollowed == Tryz.pinned.checked.prog.unfollowed 6) = true := by kernel_rfl
theorem cacheExpires_j3 : (Rows.cacheExpiresRow.recurses == Tryz.pinned.checked.prog.recurses 6) = true := by kernel_rfl
theorem cacheExpires_j4 : (Rows.cacheExpiresRow.named == Tryz.pinned.checked.prog.varsNamed 6) = true := by kernel_rfl
theorem cacheExpires_closed : joinedFacts Tryz.pinned.checked.prog 6 Tryz.f6 (OpenSpec.ofChange Rows.cacheExpiresSpec).bare Rows.cacheExpiresRow = true := by
  unfold joinedFacts
  rw [cacheExpires_j1, cacheExpires_j2, cacheExpires_j3, cacheExpires_j4, start_laid, start_maps, start_may, start_final, start_make]
  kernel_rfl
end Go.Proofs.YtehpafebpgndeaaGreatDoor
