/-
  SameNotes of two lists that are alike: true.
-/
import Derived.Test.YthchacmkeppjcaaRingB
namespace Go.Proofs.Ythchacmkeppjcaa
set_option linter.unusedVariables false
set_option linter.unusedSimpArgs false
set_option linter.unnecessarySimpa false
open Go.RowKit

/-- Last of a ring that was told nothing: no notes. -/
theorem last_none (b : Nat) (most : Int) (v : Value) (w : World) (hr : RingHas w b most [] v) :
    Calls Try.prog 10 #[.pointer (some ⟨b, 0, none⟩)] w fun e w' => e = .returned (.slice none 0 0) ∧ w = w' := by
  obtain ⟨hb, hsl, hne, hm1, hm2, ht0, hv⟩ := hr
  obtain rfl := hv (by simp [lastn])
  have k1 := cell_at hb 1
  simp at k1
  have hnil := fun w a l c => Lib.run_eql_slice_nil (P := Try.prog) w 22 38 a l c 0 0 Try.underlying22
  clear hv
  go_enter Try.func10, Try.ntmps10
  go_wp2
  go_ret
  exact ⟨rfl, rfl⟩

theorem rd_note {w : World} {v : Value} {l : List Note} {ao : Option Addr} {m c : Nat} (h : Rd w 4 l.length v (flat l)) (hv : v = .slice ao m c) (i : Nat) (hi : i < l.length) :
    ∃ g off, ao = some ⟨g, off, none⟩ ∧ w.cell? ⟨g, off + i * 4, none⟩ = some (.string (l[i]).user) ∧ w.cell? ⟨g, off + i * 4 + 1, none⟩ = some (.int .i64 (l[i]).op) ∧ w.cell? ⟨g, off + i * 4 + 2, none⟩ = some (.string (l[i]).key) ∧ w.cell? ⟨g, off + i * 4 + 3, none⟩ = some (.bool (l[i]).allow) := by
  subst hv
  obtain ⟨_, _, hc⟩ := h.at
  have f := fun j hj => flat_at l i hi j hj
  obtain ⟨g, off, rfl, h0⟩ := hc _ _ (f 0 (by omega))
  obtain ⟨g1, off1, e1, h1⟩ := hc _ _ (f 1 (by omega))
  obtain ⟨g2, off2, e2, h2⟩ := hc _ _ (f 2 (by omega))
  obtain ⟨g3, off3, e3, h3⟩ := hc _ _ (f 3 (by omega))
  injection e1 with e1; injection e1 with a1 b1; subst a1 b1
  injection e2 with e2; injection e2 with a2 b2; subst a2 b2
  injection e3 with e3; injection e3 with a3 b3; subst a3 b3
  exact ⟨g, off, rfl, by simpa using h0, by simpa [Nat.add_assoc] using h1, by simpa [Nat.add_assoc] using h2, by simpa [Nat.add_assoc] using h3⟩

set_option maxRecDepth 100000 in
set_option maxHeartbeats 800000 in
theorem sameNotes_true (va vb : Value) (l : List Note) (w : World) (ha : Rd w 4 l.length va (flat l)) (hb : Rd w 4 l.length vb (flat l)) (hl : l.length ≤ 1000000) :
    Calls Try.prog 12 #[va, vb] w fun e w' => e = .returned (.bool true) ∧ ∃ q, w' = w.drewN q := by
  obtain ⟨aoa, ca, hva, hca⟩ := ha.shape
  obtain ⟨aob, cb, hvb, hcb⟩ := hb.shape
  have HA := Lib.hid (fun i hi => rd_note ha hva i hi)
  have HB := Lib.hid (fun i hi => rd_note hb hvb i hi)
  subst hva hvb
  clear ha hb
  obtain ⟨n, hn⟩ : ∃ n, n = l.length := ⟨_, rfl⟩
  rw [← hn] at hl hca hcb ⊢
  have HN := Lib.hid hn
  clear hn
  go_enter Try.func12, Try.ntmps12
  go_wp2_with fail
  go_loopw [5] (fun k wr => ∃ i : Nat, i ≤ n ∧ k = .int .i64 (i : Int) ∧ ∃ q, wr = w.drewN q) (fun k _ => n - (intOf k).toNat)
  case atStart => exact ⟨0, by omega, rfl, 0, rfl⟩
  case round =>
    obtain ⟨i, hi, rfl, q, rfl⟩ := hrel
    by_cases hlt : i < n
    · obtain ⟨g, off, rfl, x0, x1, x2, x3⟩ := HA.out i (HN.out ▸ hlt)
      obtain ⟨g', off', rfl, y0, y1, y2, y3⟩ := HB.out i (HN.out ▸ hlt)
      generalize (l[i]'(HN.out ▸ hlt)) = nt at *
      go_wp2_with fail
      go_region
      go_wp2_with fail
      go_roundw
      case rel => exact ⟨i + 1, by omega, by go_num, q + 1, rfl⟩
      case measure => simp [intOf]; omega
    · go_wp2_with fail
      go_ret
      exact ⟨rfl, q, rfl⟩
end Go.Proofs.Ythchacmkeppjcaa
