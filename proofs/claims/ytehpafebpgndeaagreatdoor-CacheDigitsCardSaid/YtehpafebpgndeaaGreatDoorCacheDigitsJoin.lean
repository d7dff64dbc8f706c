/-
  CacheDigits: what the row's closed cells say of the program, each a fact of its own.
-/
import Derived.Test.YtehpafebpgndeaaGreatDoorCacheStart
namespace Go.Proofs.YtehpafebpgndeaaGreatDoor
set_option linter.unusedVariables false
set_option linter.unusedSimpArgs false
set_option linter.unnecessarySimpa false
open Go.ChangeShapes Go.WideShapes Go.ChangeAt Go.RowKit

theorem cacheDigits_j1 : (Rows.cacheDigitsRow.inPlace == Tryz.pinned.checked.prog.inPlace 12) = true := by kernel_rfl
theorem cacheDigits_j2 : (Rows.cacheDigitsRow.unfollowed == Tryz.pinned.checked.prog.unfollowed 12) = true := by kernel_rfl
theorem cacheDigits_j3 : (Rows.cacheDigitsRow.recurses == Tryz.pinned.checked.prog.recurses 12) = true := by kernel_rfl
theorem cacheDigits_j4 : (Rows.cacheDigitsRow.named == Tryz.pinned.checked.prog.varsNamed 12) = true := by kernel_rfl
theorem cacheDigits_closed : joinedFacts Tryz.pinned.checked.prog 12 Tryz.f12 (OpenSpec.ofChange Rows.cacheDigitsSpec).bare Rows.cacheDigitsRow = true := by
  unfold joinedFacts
  rw [cacheDigits_j1, cacheDigits_j2, cacheDigits_j3, cacheDigits_j4, start_laid, start_maps, start_may, start_final, start_make]
  kernel_rfl
end Go.Proofs.YtehpafebpgndeaaGreatDoor
