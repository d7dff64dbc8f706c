/-
  Fill: a text made so many bytes long.
-/
import Derived.Test.YtgfpcjieonniiaaGreatProg
import Derived.Test.YtgfpcjieonniiaaGreatLib
import Derived.BigRegion
import Derived.Deep.LoopGhost
namespace Go.Proofs.YtgfpcjieonniiaaGreat
set_option linter.unusedVariables false
set_option linter.unusedSimpArgs false
set_option linter.unnecessarySimpa false
open Go.RowKit

def padN (s : ByteArray) : Nat → ByteArray
  | 0 => s
  | i + 1 => padN s i ++ ⟨#[0]⟩
theorem padN_size (s : ByteArray) : ∀ i, (padN s i).size = s.size + i
  | 0 => rfl
  | i + 1 => by rw [padN, ByteArray.size_append, padN_size s i]; rfl
/-- What Fill makes. -/
def fillB (s : ByteArray) (n : Nat) : ByteArray := (padN s (n - s.size)).extract 0 n
theorem fillB_size (s : ByteArray) (n : Nat) : (fillB s n).size = n := by
  unfold fillB
  rw [ByteArray.size_extract, padN_size]
  omega

set_option maxRecDepth 100000 in
set_option maxHeartbeats 800000 in
theorem fill_any (s : ByteArray) (n : Nat) (w : World) (hs : s.size ≤ 140737488351232) (hn : n ≤ 1000000) :
    Calls Tryz.prog 23 #[.string s, .int .i64 n] w fun e w' => e = .returned (.string (fillB s n)) ∧ w = w' := by
  go_enter Tryz.func23, Tryz.ntmps23
  go_wp2_with fail
  go_loopg [0] (n - s.size) (fun g x wr => ∃ i : Nat, i + g = n - s.size ∧ x = .string (padN s i) ∧ w = wr)
  case atStart => exact ⟨0, by omega, rfl, rfl⟩
  case round =>
    obtain ⟨i, hi, rfl, rfl⟩ := hrel
    have hsz := padN_size s i
    have hsz1 : (padN s i).size ≤ 140737490000000 := by omega
    have HZ := Lib.hid hsz
    by_cases hlt : (padN s i).size < n
    · have HX : RowKit.Hid (padN s (i + 1) = padN s i ++ ⟨#[0]⟩) := rfl
      clear hsz
      generalize padN s i = p at *
      go_wp2_with fail
      go_roundg (gk - 1)
      case measure => have := HZ.out; omega
      case rel => exact ⟨i + 1, by have := HZ.out; omega, by rw [HX.out], rfl⟩
    · have hle : n ≤ (padN s i).size := by omega
      have hfin : fillB s n = (padN s i).extract 0 n := by
        unfold fillB
        rcases Nat.eq_zero_or_pos gk with h | h
        · rw [show n - s.size = i by omega]
        · omega
      have HF := Lib.hid hfin
      clear hfin hsz
      generalize padN s i = p at *
      go_wp2_with fail
      go_ret
      exact ⟨by rw [HF.out]; first | rfl | simp, rfl⟩
end Go.Proofs.YtgfpcjieonniiaaGreat
