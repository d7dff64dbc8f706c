/-
  Package table's walks, the first part: a key's place in a row.
-/
import Derived.Test.YthdondhpgmjmpaaGreatTabP
import Derived.Test.YthdondhpgmjmpaaGreatOnce
import Derived.Test.YthdondhpgmjmpaaGreatAtom
import Derived.Deep.RegionLaw
import Derived.Deep.DeepCutAuto
import Derived.Deep.LoopGhost
import Derived.WalkSpells
import Derived.WalkLawsBesides
namespace Go.Proofs.YthdondhpgmjmpaaGreat
set_option linter.unusedVariables false
set_option linter.unusedSimpArgs false
set_option linter.unnecessarySimpa false
open Go.RowKit
set_option maxRecDepth 100000

theorem bytes_beq (a b : ByteArray) : (a.toList == b.toList) = decide (a = b) := by
  rw [Bool.eq_iff_iff, beq_iff_eq, decide_eq_true_iff, ByteArray.toList_eq, ByteArray.toList_eq]
  constructor
  · intro h
    exact ByteArray.ext (Array.ext' h)
  · rintro rfl
    rfl

/-- 'place$1': is it the item's key? -/
theorem same_key (x : It) (pl : Nat) (key : ByteArray) (w : World) (hp : w.cell? ⟨pl, 0, none⟩ = some (.string key)) :
    Calls Tryz.prog 53 #[.agg #[.string x.key, .string x.val, .int .i64 x.ver, .int .i64 x.til], .pointer (some ⟨pl, 0, none⟩)] w fun e w' => e = .returned (.bool (decide (x.key = key))) ∧ Kept (fun _ => False) w w' := by
  have hlt := World.block_lt_of_cell? w ⟨pl, 0, none⟩ hp
  have p0 : ∀ o, (w.alloc o).cell? ⟨pl, 0, none⟩ = some (.string key) := fun o => (cell_alloc_lt hlt).trans hp
  go_enter Tryz.func53, Tryz.ntmps53
  go_wp2_with fail
  go_ret
  exact ⟨congrArg (fun b => Ending.returned (.bool b)) (bytes_beq _ _), (Kept.refl _ w).alloc _⟩

/-- slices.IndexFunc with it: the place of the key's item. -/
theorem index_key (v : Value) (l : List It) (pl : Nat) (key : ByteArray) (w : World) (hv : Rd w 4 l.length v (flat l)) (hl : l.length ≤ 1000000) (hp : w.cell? ⟨pl, 0, none⟩ = some (.string key)) :
    Calls Tryz.prog 52 #[v, .func (.func 53) #[] #[.pointer (some ⟨pl, 0, none⟩)]] w fun e w' => (∃ r, e = .returned (.int .i64 r) ∧ Found key l r) ∧ Kept (fun _ => False) w w' := by
  obtain ⟨ao, ca, rfl, hca⟩ := hv.shape
  have HA := Lib.hid (fun (wr : World) (hk : Kept (fun _ => False) w wr) i hi => rd_it (hv.kept hk (fun _ _ h => h)) rfl i hi)
  have HP := Lib.hid (fun (wr : World) (hk : Kept (fun _ => False) w wr) => hk.cell0 hp)
  clear hv hp
  obtain ⟨n, hn⟩ : ∃ n, n = l.length := ⟨_, rfl⟩
  rw [← hn] at hl hca ⊢
  have HN := Lib.hid hn
  clear hn
  go_enter Tryz.func52, Tryz.ntmps52
  go_wp2_with fail
  go_loopg [8] n (fun g k wr => ∃ i : Nat, i + g = n ∧ k = .int .i64 (i : Int) ∧ (∀ x ∈ l.take i, x.key ≠ key) ∧ Kept (fun _ => False) w wr)
  case atStart => exact ⟨0, by omega, rfl, by simp, Kept.refl _ _⟩
  case round =>
    obtain ⟨i, hi, rfl, hno, hk⟩ := hrel
    by_cases hlt : i < n
    · obtain ⟨g, off, rfl, x0, x1, x2, x3⟩ := HA.out _ hk i (HN.out ▸ hlt)
      have hp := HP.out _ hk
      have hget : l[i]? = some (l[i]'(HN.out ▸ hlt)) := List.getElem?_eq_getElem _
      have hsn : ∀ x ∈ l.take (i + 1), x.key ≠ key ∨ x = (l[i]'(HN.out ▸ hlt)) := by
        intro x hx
        rw [List.take_succ_eq_append_getElem (HN.out ▸ hlt)] at hx
        rcases List.mem_append.1 hx with h | h
        · exact .inl (hno x h)
        · exact .inr (by simpa using h)
      have HG := Lib.hid hget
      have HS := Lib.hid hsn
      clear hget hsn hno
      generalize (l[i]'(HN.out ▸ hlt)) = it at *
      go_wp2_with fail
      refine (same_key it pl key _ hp).mono ?_
      rintro e w1 ⟨rfl, hk1⟩
      by_cases hq : it.key = key
      · have hb : decide (it.key = key) = true := decide_eq_true hq
        rw [hb]
        go_wp2_with fail
        go_ret
        exact ⟨⟨_, rfl, .inr ⟨i, it, rfl, HG.out, hq⟩⟩, hk.trans hk1 (fun _ _ h => h)⟩
      · have hb : decide (it.key = key) = false := decide_eq_false hq
        rw [hb]
        go_wp2_with fail
        go_roundg (gk - 1)
        case measure => omega
        case rel => exact ⟨i + 1, by omega, by go_num, fun x hx => (HS.out x hx).elim id (fun e => e ▸ hq), hk.trans hk1 (fun _ _ h => h)⟩
    · obtain rfl : i = n := by omega
      rw [List.take_of_length_le (by rw [HN.out]; exact Nat.le_refl _)] at hno
      have HH := Lib.hid hno
      clear hno
      go_wp2_with fail
      go_ret
      exact ⟨⟨_, rfl, .inl ⟨rfl, HH.out⟩⟩, hk⟩
end Go.Proofs.YthdondhpgmjmpaaGreat
