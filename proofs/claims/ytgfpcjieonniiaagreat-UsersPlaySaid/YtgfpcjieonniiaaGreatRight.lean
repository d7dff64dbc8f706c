/-
  users.Right: may a user be?
-/
import Derived.Test.YtgfpcjieonniiaaGreatProg
import Derived.Test.YtgfpcjieonniiaaGreatLib
import Derived.Lib.ConvBytes
import Derived.BigRegion
namespace Go.Proofs.YtgfpcjieonniiaaGreat
set_option linter.unusedVariables false
set_option linter.unusedSimpArgs false
set_option linter.unnecessarySimpa false
open Go.RowKit

/-- A byte of a name. -/
def nameByte (c : UInt8) : Bool := decide (33 ≤ c.toNat) && decide (c.toNat ≤ 126)
/-- May a user of that name, with that secret, be? -/
def rightB (n s : ByteArray) : Bool := decide (1 ≤ n.size) && decide (n.size ≤ 20) && decide (s.size = 32) && n.data.toList.all nameByte

theorem kept_bytes (w : World) (e : TypeId) (s : ByteArray) : Kept (fun _ => False) w (Lib.bytesWorld w e s) :=
  ⟨rfl, rfl, rfl, by rw [Lib.bytesWorld_size]; omega, fun k hk _ => Lib.bytesWorld_at_old w e s k hk⟩

theorem all_at {α : Type} (p : α → Bool) (l : List α) (d : α) {i : Nat} (h : i < l.length) : l.all p = ((l.take i).all p && (p (l.getD i d) && (l.drop (i + 1)).all p)) := by
  have e : l.getD i d = l[i] := by simp [List.getD, h]
  rw [e, ← List.all_cons, ← List.all_append, ← List.drop_eq_getElem_cons h, List.take_append_drop]
theorem all_next {α : Type} (p : α → Bool) (l : List α) (d : α) {i : Nat} (h : i < l.length) : (l.take (i + 1)).all p = ((l.take i).all p && p (l.getD i d)) := by
  have e : l.getD i d = l[i] := by simp [List.getD, h]
  rw [e, List.take_succ_eq_append_getElem h, List.all_append]
  simp only [List.all_cons, List.all_nil, Bool.and_true]

set_option maxRecDepth 100000 in
set_option maxHeartbeats 800000 in
theorem right_any (n s : ByteArray) (w : World) :
    Calls Tryz.prog 7 #[.agg #[.string n, .string s]] w fun e w' => e = .returned (.bool (rightB n s)) ∧ Kept (fun _ => False) w w' := by
  have hbox : Kept (fun _ => False) w (w.alloc (.cells #[.string n, .string s] 32)) := (Kept.refl _ _).alloc _
  have HB := Lib.hid hbox
  clear hbox
  by_cases c1 : (n.size : Int) < 1
  · have hr : rightB n s = false := by simp [rightB]; omega
    rw [hr]
    clear hr
    go_enter Tryz.func7, Tryz.ntmps7
    go_wp2_with fail
    go_ret
    exact ⟨rfl, HB.out⟩
  by_cases c2 : (20 : Int) < n.size
  · have hr : rightB n s = false := by simp [rightB]; omega
    rw [hr]
    clear hr
    go_enter Tryz.func7, Tryz.ntmps7
    go_wp2_with fail
    go_ret
    exact ⟨rfl, HB.out⟩
  by_cases c3 : s.size = 32
  rotate_left
  · have hr : rightB n s = false := by simp [rightB, c3]
    rw [hr]
    have h3 : ((s.size : Int) != 32) = true := by rw [bne_iff_ne]; omega
    clear hr c3
    go_enter Tryz.func7, Tryz.ntmps7
    go_wp2_with fail
    go_ret
    exact ⟨rfl, HB.out⟩
  have d1 : 1 ≤ n.size := by omega
  have d2 : n.size ≤ 20 := by omega
  have hr : rightB n s = n.data.toList.all nameByte := by unfold rightB; rw [decide_eq_true d1, decide_eq_true d2, decide_eq_true c3]; rfl
  have HR := Lib.hid hr
  have h3 : ((s.size : Int) != 32) = false := by rw [bne_eq_false_iff_eq]; omega
  have hconv := fun w => Lib.run_convert_string_bytes (P := Tryz.prog) w 9 74 5 n Tryz.underlying9 Tryz.underlying74 Tryz.underlying5
  obtain ⟨W, hW⟩ : ∃ W, W = Lib.bytesWorld (w.alloc (.cells #[.string n, .string s] 32)) 5 n := ⟨_, rfl⟩
  have hcell : ∀ j, j < n.size → W.cell? ⟨w.heap.size + 1, j, none⟩ = some (.int .u8 (n.data.toList.getD j 0).toNat) := fun j hj => by
    have := Lib.bytesWorld_cell (w.alloc (.cells #[.string n, .string s] 32)) 5 n j hj
    rw [hW]
    simpa using this
  have hkW : Kept (fun _ => False) w W := hW ▸ HB.out.trans (kept_bytes _ _ _) (fun _ _ h => h)
  have hc2 := hconv (w.alloc (.cells #[.string n, .string s] 32))
  rw [← hW] at hc2
  simp at hc2
  have HC := Lib.hid hcell
  have HK := Lib.hid hkW
  clear c1 c2 c3 hr hconv hW hcell hkW HB
  have hlen : n.data.toList.length = n.size := by simp
  have HN := Lib.hid hlen
  clear hlen
  go_enter Tryz.func7, Tryz.ntmps7
  go_wp2_with fail
  go_loop [25, 4] (fun k _ => ∃ i : Nat, i ≤ n.size ∧ k = .int .i64 (i : Int) ∧ (n.data.toList.take i).all nameByte = true) (fun k _ => n.size - (intOf k).toNat)
  case atStart => exact ⟨0, by omega, rfl, rfl⟩
  case round =>
    obtain ⟨i, hi, rfl, hall⟩ := hrel
    by_cases hlt : i < n.size
    · have x0 := HC.out i hlt
      have hsp : n.data.toList.all nameByte = ((n.data.toList.take i).all nameByte && (nameByte (n.data.toList.getD i 0) && (n.data.toList.drop (i + 1)).all nameByte)) := all_at _ _ 0 (by rw [HN.out]; exact hlt)
      have hsn : (n.data.toList.take (i + 1)).all nameByte = ((n.data.toList.take i).all nameByte && nameByte (n.data.toList.getD i 0)) := all_next _ _ 0 (by rw [HN.out]; exact hlt)
      have HS := Lib.hid hsp
      have HS2 := Lib.hid hsn
      have HA := Lib.hid hall
      clear hsp hsn hall
      generalize n.data.toList.getD i 0 = c at *
      have hc0 : 0 ≤ (c.toNat : Int) := by omega
      have hc1 : (c.toNat : Int) ≤ 255 := by have := c.toNat_lt; omega
      by_cases e1 : (c.toNat : Int) < 33
      · go_wp2_with fail
        go_ret
        refine ⟨congrArg (fun b => Ending.returned (.bool b)) ?_, HK.out⟩
        have : nameByte c = false := by simp [nameByte]; intro; omega
        rw [HR.out, HS.out, this, Bool.false_and, Bool.and_false]
      · by_cases e2 : (126 : Int) < c.toNat
        · go_wp2_with fail
          go_ret
          refine ⟨congrArg (fun b => Ending.returned (.bool b)) ?_, HK.out⟩
          have : nameByte c = false := by simp [nameByte]; intro; omega
          rw [HR.out, HS.out, this, Bool.false_and, Bool.and_false]
        · have : nameByte c = true := by simp [nameByte]; omega
          have HT := Lib.hid this
          clear this
          go_wp2_with fail
          go_round
          case rel => exact ⟨i + 1, by omega, by go_num, by rw [HS2.out, HA.out, HT.out]; rfl⟩
          case measure => simp [intOf]; omega
    · obtain rfl : i = n.size := by omega
      rw [← HN.out, List.take_length] at hall
      have HA := Lib.hid hall
      clear hall
      go_wp2_with fail
      go_ret
      exact ⟨congrArg (fun b => Ending.returned (.bool b)) (HR.out.trans HA.out).symm, HK.out⟩
end Go.Proofs.YtgfpcjieonniiaaGreat
