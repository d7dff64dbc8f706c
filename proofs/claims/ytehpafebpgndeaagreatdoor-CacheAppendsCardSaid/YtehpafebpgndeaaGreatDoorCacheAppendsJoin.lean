/-
  CacheAppends: what the row's closed cells say of the program, each a fact of its own.
-/
import Derived.Test.YtehpafebpgndeaaGreatDoorCacheStart
namespace Go.Proofs.YtehpafebpgndeaaGreatDoor
set_option linter.unusedVariables false
set_option linter.unusedSimpArgs false
set_option linter.unnecessarySimpa false
open Go.ChangeShapes Go.WideShapes Go.ChangeAt Go.RowKit

theorem cacheAppends_j1 : (Rows.cacheAppendsRow.inPlace == Tryz.pinned.checked.prog.inPlace 9) = true := by kernel_rfl
theorem cacheAppends_j2 : (Rows.cacheAppendsRow.unfollowed == Tryz.pinned.checked.prog.unfollowed 9) = true := by kernel_rfl
theorem cacheAppends_j3 : (Rows.cacheAppendsRow.recurses == Tryz.pinned.checked.prog.recurses 9) = true := by kernel_rfl
theorem cacheAppends_j4 : (Rows.cacheAppendsRow.named == Tryz.pinned.checked.prog.varsNamed 9) = true := by kernel_rfl
theorem cacheAppends_closed : joinedFacts Tryz.pinned.checked.prog 9 Tryz.f9 (OpenSpec.ofChange Rows.cacheAppendsSpec).bare Rows.cacheAppendsRow = true := by
  unfold joinedFacts
  rw [cacheAppends_j1, cacheAppends_j2, cacheAppends_j3, cacheAppends_j4, start_laid, start_maps, start_may, start_final, start_make]
  kernel_rfl
end Go.Proofs.YtehpafebpgndeaaGreatDoor
