/-
  CacheUses: what the row's closed cells say of the program, each a fact of its own.
-/
import Derived.Test.YtehpafebpgndeaaGreatDoorCacheStart
namespace Go.Proofs.YtehpafebpgndeaaGreatDoor
set_option linter.unusedVariables false
set_option linter.unusedSimpArgs false
set_option linter.unnecessarySimpa false
open Go.ChangeShapes Go.WideShapes Go.ChangeAt Go.RowKit

theorem cacheUses_j1 : (Rows.cacheUsesRow.inPlace == Tryz.pinned.checked.prog.inPlace 16) = true := by kernel_rfl
theorem cacheUses_j2 : (Rows.cacheUsesRow.unfollowed == Tryz.pinned.checked.prog.unfollowed 16) = true := by kernel_rfl
theorem cacheUses_j3 : (Rows.cacheUsesRow.recurses == Tryz.pinned.checked.prog.recurses 16) = true := by kernel_rfl
theorem cacheUses_j4 : (Rows.cacheUsesRow.named == Tryz.pinned.checked.prog.varsNamed 16) = true := by kernel_rfl
theorem cacheUses_closed : joinedFacts Tryz.pinned.checked.prog 16 Tryz.f16 (OpenSpec.ofChange Rows.cacheUsesSpec).bare Rows.cacheUsesRow = true := by
  unfold joinedFacts
  rw [cacheUses_j1, cacheUses_j2, cacheUses_j3, cacheUses_j4, start_laid, start_maps, start_may, start_final, start_make]
  kernel_rfl
end Go.Proofs.YtehpafebpgndeaaGreatDoor
