/-
  atomic.Int64: Add, Load, Store of one goroutine: on a cell that holds an int64, as one would do it by hand.
-/
import Derived.Test.YthdondhpgmjmpaaGreatProg
import Derived.Test.YthdondhpgmjmpaaGreatLib
namespace Go.Proofs.YthdondhpgmjmpaaGreat
set_option linter.unusedVariables false
set_option linter.unusedSimpArgs false
set_option linter.unnecessarySimpa false
open Go.RowKit

theorem atomic_add (b off : Nat) (x y s : Int) (w : World) (hc : w.cell? ⟨b, off, none⟩ = some (.int .i64 x)) (hz : w.frozen? ⟨b, off, none⟩ = false) (hs : wrap64 (x + y) = s) :
    Calls Tryz.prog 17 #[.pointer (some ⟨b, off, none⟩), .int .i64 y] w fun e w' => e = .returned (.int .i64 s) ∧ w.setCell ⟨b, off, none⟩ (.int .i64 s) = w' := by
  subst hs
  have ha := run_call_add (P := Tryz.prog) Tryz.func54 (by kernel_rfl) (by kernel_rfl) (by kernel_rfl) .i64 (by kernel_rfl) (y := y) hc hz (s := wrap64 (x + y)) (by simp [go_sem, wrap64, IntKind.wrap_i64])
  go_enter Tryz.func17, Tryz.ntmps17
  go_wp2
  go_ret
  exact ⟨rfl, rfl⟩

theorem atomic_load (b off : Nat) (x : Int) (w : World) (hc : w.cell? ⟨b, off, none⟩ = some (.int .i64 x)) :
    Calls Tryz.prog 20 #[.pointer (some ⟨b, off, none⟩)] w fun e w' => e = .returned (.int .i64 x) ∧ w = w' := by
  have ha := run_call_load (P := Tryz.prog) Tryz.func55 (by kernel_rfl) (by kernel_rfl) (by kernel_rfl) .i64 (by kernel_rfl) hc
  go_enter Tryz.func20, Tryz.ntmps20
  go_wp2
  go_ret
  exact ⟨rfl, rfl⟩

end Go.Proofs.YthdondhpgmjmpaaGreat
