/-
  A text out of bytes that were just written down.
-/
import Derived.Test.YtgfpcjieonniiaaGreatProg
import Derived.Test.YtgfpcjieonniiaaGreatLib
import Derived.Laws.BytesArg
import Derived.IntWalk
namespace Go.Proofs.YtgfpcjieonniiaaGreat
set_option linter.unusedVariables false
set_option linter.unusedSimpArgs false
set_option linter.unnecessarySimpa false
open Go.RowKit

/-- 'string([]byte{..})'. -/
theorem conv_new (w : World) (ns : List Int) : (convert 74 9 (.slice (some ⟨w.heap.size, 0, none⟩) ns.length ns.length)).run Tryz.prog (w.alloc (.cells (ns.map (Value.int .u8)).toArray 5)) = .ok (.string (strOfNums ns)) (w.alloc (.cells (ns.map (Value.int .u8)).toArray 5)) := by
  refine run_convert_bytes_arg _ 74 5 Tryz.underlying74 Tryz.underlying5 w.heap.size 0 ns.length ns.length ns rfl (fun i hi => ?_) 9 Tryz.underlying9
  have h := cells_new w (ns.map (Value.int .u8)) 5 (0, 0) i (.int .u8 ns[i]) (by simp [hi])
  rw [Addr.add_lit] at h
  rw [h]
  simp [List.getD, hi]
end Go.Proofs.YtgfpcjieonniiaaGreat
