/-
  CacheNumbers: what the row's closed cells say of the program, each a fact of its own.
-/
import Derived.Test.YtehpafebpgndeaaGreatDoorCacheStart
namespace Go.Proofs.YtehpafebpgndeaaGreatDoor
set_option linter.unusedVariables false
set_option linter.unusedSimpArgs false
set_option linter.unnecessarySimpa false
open Go.ChangeShapes Go.WideShapes Go.ChangeAt Go.RowKit

theorem cacheNumbers_j1 : (Rows.cacheNumbersRow.inPlace == Tryz.pinned.checked.prog.inPlace 3) = true := by kernel_rfl
theorem cacheNumbers_j2 : (Rows.cacheNumbersRow.unfollowed == Tryz.pinned.checked.prog.unfollowed 3) = true := by kernel_rfl
theorem cacheNumbers_j3 : (Rows.cacheNumbersRow.recurses == Tryz.pinned.checked.prog.recurses 3) = true := by kernel_rfl
theorem cacheNumbers_j4 : (Rows.cacheNumbersRow.named == Tryz.pinned.checked.prog.varsNamed 3) = true := by kernel_rfl
theorem cacheNumbers_closed : joinedFacts Tryz.pinned.checked.prog 3 Tryz.f3 (OpenSpec.ofChange Rows.cacheNumbersSpec).bare Rows.cacheNumbersRow = true := by
  unfold joinedFacts
  rw [cacheNumbers_j1, cacheNumbers_j2, cacheNumbers_j3, cacheNumbers_j4, start_laid, start_maps, start_may, start_final, start_make]
  kernel_rfl
end Go.Proofs.YtehpafebpgndeaaGreatDoor
