/-
  CacheCas: what the row's closed cells say of the program, each a fact of its own.
-/
import Derived.Test.YtehpafebpgndeaaGreatDoorCacheStart
namespace Go.Proofs.YtehpafebpgndeaaGreatDoor
set_option linter.unusedVariables false
set_option linter.unusedSimpArgs false
set_option linter.unnecessarySimpa false
open Go.ChangeShapes Go.WideShapes Go.ChangeAt Go.RowKit

theorem cacheCas_j1 : (Rows.cacheCasRow.inPlace == Tryz.pinned.checked.prog.inPlace 4) = true := by kernel_rfl
theorem cacheCas_j2 : (Rows.cacheCasRow.unfollowed == Tryz.pinned.checked.prog.unfollowed 4) = true := by kernel_rfl
theorem cacheCas_j3 : (Rows.cacheCasRow.recurses == Tryz.pinned.checked.prog.recurses 4) = true := by kernel_rfl
theorem cacheCas_j4 : (Rows.cacheCasRow.named == Tryz.pinned.checked.prog.varsNamed 4) = true := by kernel_rfl
theorem cacheCas_closed : joinedFacts Tryz.pinned.checked.prog 4 Tryz.f4 (OpenSpec.ofChange Rows.cacheCasSpec).bare Rows.cacheCasRow = true := by
  unfold joinedFacts
  rw [cacheCas_j1, cacheCas_j2, cacheCas_j3, cacheCas_j4, start_laid, start_maps, start_may, start_final, start_make]
  kernel_rfl
end Go.Proofs.YtehpafebpgndeaaGreatDoor
