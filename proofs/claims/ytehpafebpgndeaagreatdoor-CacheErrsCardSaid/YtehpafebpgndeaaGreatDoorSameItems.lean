/-
  SameItems of two lists that are alike: true.
-/
import Derived.Test.YtehpafebpgndeaaGreatDoorTabP
import Derived.BigRegion
import Derived.Deep.LoopGhost
namespace Go.Proofs.YtehpafebpgndeaaGreatDoor
set_option linter.unusedVariables false
set_option linter.unusedSimpArgs false
set_option linter.unnecessarySimpa false
open Go.RowKit

set_option maxRecDepth 100000 in
set_option maxHeartbeats 800000 in
theorem sameItems_true (va vb : Value) (l : List It) (w : World) (ha : Rd w 4 l.length va (flat l)) (hb : Rd w 4 l.length vb (flat l)) (hl : l.length ≤ 1000000) :
    Calls Tryz.prog 35 #[va, vb] w fun e w' => e = .returned (.bool true) ∧ ∃ q, w' = w.drewN q := by
  obtain ⟨aoa, ca, hva, hca⟩ := ha.shape
  obtain ⟨aob, cb, hvb, hcb⟩ := hb.shape
  have HA := Lib.hid (fun i hi => rd_it ha hva i hi)
  have HB := Lib.hid (fun i hi => rd_it hb hvb i hi)
  subst hva hvb
  clear ha hb
  obtain ⟨n, hn⟩ : ∃ n, n = l.length := ⟨_, rfl⟩
  rw [← hn] at hl hca hcb ⊢
  have HN := Lib.hid hn
  clear hn
  go_enter Tryz.func35, Tryz.ntmps35
  go_wp2_with fail
  go_loopw [5] (fun k wr => ∃ i : Nat, i ≤ n ∧ k = .int .i64 (i : Int) ∧ ∃ q, wr = w.drewN q) (fun k _ => n - (intOf k).toNat)
  case atStart => exact ⟨0, by omega, rfl, 0, rfl⟩
  case round =>
    obtain ⟨i, hi, rfl, q, rfl⟩ := hrel
    by_cases hlt : i < n
    · obtain ⟨g, off, rfl, x0, x1, x2, x3⟩ := HA.out i (HN.out ▸ hlt)
      obtain ⟨g', off', rfl, y0, y1, y2, y3⟩ := HB.out i (HN.out ▸ hlt)
      generalize (l[i]'(HN.out ▸ hlt)) = nt at *
      go_wp2_with fail
      go_region
      go_wp2_with fail
      go_roundw
      case rel => exact ⟨i + 1, by omega, by go_num, q + 1, rfl⟩
      case measure => simp [intOf]; omega
    · go_wp2_with fail
      go_ret
      exact ⟨rfl, q, rfl⟩
end Go.Proofs.YtehpafebpgndeaaGreatDoor
