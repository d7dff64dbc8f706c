/-
  SameTexts of two lists that are alike: true.
-/
import Derived.Test.YtgfpcjieonniiaaGreatProg
import Derived.Test.YtgfpcjieonniiaaGreatLib
import Derived.BigRegion
import Derived.Deep.LoopGhost
namespace Go.Proofs.YtgfpcjieonniiaaGreat
set_option linter.unusedVariables false
set_option linter.unusedSimpArgs false
set_option linter.unnecessarySimpa false
open Go.RowKit

theorem rd_str {w : World} {l : List ByteArray} {ao : Option Addr} {m c : Nat} (h : Rd w 1 l.length (.slice ao m c) (l.map Value.string)) (i : Nat) (hi : i < l.length) : ∃ g off, ao = some ⟨g, off, none⟩ ∧ w.cell? ⟨g, off + i, none⟩ = some (.string l[i]) := by
  obtain ⟨_, _, hc⟩ := h.at
  exact hc i _ (by simp [hi])

set_option maxRecDepth 100000 in
set_option maxHeartbeats 800000 in
theorem sameTexts_true (va vb : Value) (l : List ByteArray) (w : World) (ha : Rd w 1 l.length va (l.map Value.string)) (hb : Rd w 1 l.length vb (l.map Value.string)) (hl : l.length ≤ 1000000) :
    Calls Tryz.prog 68 #[va, vb] w fun e w' => e = .returned (.bool true) ∧ ∃ q, w' = w.drewN q := by
  obtain ⟨aoa, ca, rfl, hca⟩ := ha.shape
  obtain ⟨aob, cb, rfl, hcb⟩ := hb.shape
  have HA := Lib.hid (fun i hi => rd_str ha i hi)
  have HB := Lib.hid (fun i hi => rd_str hb i hi)
  clear ha hb
  obtain ⟨n, hn⟩ : ∃ n, n = l.length := ⟨_, rfl⟩
  rw [← hn] at hl hca hcb ⊢
  have HN := Lib.hid hn
  clear hn
  go_enter Tryz.func68, Tryz.ntmps68
  go_wp2_with fail
  go_loopw [5] (fun k wr => ∃ i : Nat, i ≤ n ∧ k = .int .i64 (i : Int) ∧ ∃ q, wr = w.drewN q) (fun k _ => n - (intOf k).toNat)
  case atStart => exact ⟨0, by omega, rfl, 0, rfl⟩
  case round =>
    obtain ⟨i, hi, rfl, q, rfl⟩ := hrel
    by_cases hlt : i < n
    · obtain ⟨g, off, rfl, x0⟩ := HA.out i (HN.out ▸ hlt)
      obtain ⟨g', off', rfl, y0⟩ := HB.out i (HN.out ▸ hlt)
      generalize (l[i]'(HN.out ▸ hlt)) = nt at *
      go_wp2_with fail
      go_region
      go_wp2_with fail
      go_roundw
      case rel => exact ⟨i + 1, by omega, by go_num, q + 1, rfl⟩
      case measure => simp [intOf]; omega
    · go_wp2_with fail
      go_ret
      exact ⟨rfl, q, rfl⟩
end Go.Proofs.YtgfpcjieonniiaaGreat
