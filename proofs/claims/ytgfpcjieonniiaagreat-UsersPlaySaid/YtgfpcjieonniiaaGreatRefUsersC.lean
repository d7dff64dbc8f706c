/-
  The reference's users: Name, User, Users: may they be?
-/
import Derived.Test.YtgfpcjieonniiaaGreatRefUsersB
import Derived.Test.YtgfpcjieonniiaaGreatUserC
namespace Go.Proofs.YtgfpcjieonniiaaGreat
set_option linter.unusedVariables false
set_option linter.unusedSimpArgs false
set_option linter.unnecessarySimpa false
open Go.RowKit
set_option maxRecDepth 100000

/-- May a name be? -/
def nameB (n : ByteArray) : Bool := n.data.toList.all nameByte && (decide (1 ≤ n.size) && decide (n.size ≤ 20))
theorem nameB_right (n s : ByteArray) : (nameB n && decide (s.size = 32)) = rightB n s := by
  unfold nameB rightB
  cases n.data.toList.all nameByte <;> cases decide (1 ≤ n.size) <;> cases decide (n.size ≤ 20) <;> cases decide (s.size = 32) <;> rfl

set_option maxHeartbeats 800000 in
theorem refName_any (n : ByteArray) (w : World) (hn : n.size ≤ maxLen) :
    Calls Tryz.prog 25 #[.string n] w fun e w' => e = .returned (.bool (nameB n)) ∧ w = w' := by
  have hlen : n.data.toList.length = n.size := by simp
  have HN := Lib.hid hlen
  have hb : n.size ≤ 9223372036854775807 := by unfold maxLen at hn; omega
  clear hlen hn
  go_enter Tryz.func25, Tryz.ntmps25
  go_wp2_with fail
  go_loopg [3] n.size (fun gk k wr => ∃ i : Nat, i + gk = n.size ∧ k = .int .i64 (i : Int) ∧ (n.data.toList.take i).all nameByte = true ∧ w = wr)
  case atStart => exact ⟨0, by omega, rfl, rfl, rfl⟩
  case round =>
    obtain ⟨i, hi, rfl, hall, rfl⟩ := hrel
    by_cases hlt : i < n.size
    · have hl : i < n.data.toList.length := by rw [HN.out]; exact hlt
      have hc : n.data.toList[i] = n[i] := by simp [ByteArray.getElem_eq_getElem_data]
      have hsp := Lib.hid (all_at nameByte n.data.toList 0 hl)
      have hsn := Lib.hid (all_next nameByte n.data.toList 0 hl)
      have hgd : n.data.toList.getD i 0 = n[i] := by rw [← hc]; simp only [List.getD, List.getElem?_eq_getElem hl, Option.getD_some]
      rw [hgd] at hsp hsn
      have HALL := Lib.hid hall
      have h256 : (n[i]).toNat < 256 := (n[i]).toNat_lt
      clear hc hgd hall
      by_cases b1 : ((n[i]).toNat : Int) < 33
      · have hno : nameB n = false := by
          unfold nameB
          rw [hsp.out]
          have : nameByte n[i] = false := by unfold nameByte; rw [decide_eq_false (by omega)]; rfl
          rw [this]; simp
        have HE := Lib.hid hno
        clear hno
        go_wp2_with fail
        go_ret
        rw [HE.out]
        exact ⟨rfl, rfl⟩
      · by_cases b2 : (126 : Int) < ((n[i]).toNat : Int)
        · have hno : nameB n = false := by
            unfold nameB
            rw [hsp.out]
            have : nameByte n[i] = false := by unfold nameByte; rw [decide_eq_false (show ¬ (n[i]).toNat ≤ 126 by omega)]; simp
            rw [this]; simp
          have HE := Lib.hid hno
          clear hno
          go_wp2_with fail
          go_ret
          rw [HE.out]
          exact ⟨rfl, rfl⟩
        · have hyes := Lib.hid (show (n.data.toList.take (i + 1)).all nameByte = true by
            rw [hsn.out, HALL.out]
            unfold nameByte
            rw [decide_eq_true (show 33 ≤ (n[i]).toNat by omega), decide_eq_true (show (n[i]).toNat ≤ 126 by omega)]; rfl)
          go_wp2_with fail
          go_roundg (gk - 1)
          case measure => omega
          case rel => exact ⟨i + 1, by omega, by go_num, hyes.out, rfl⟩
    · obtain rfl : i = n.size := by omega
      have ha : n.data.toList.all nameByte = true := by rwa [List.take_of_length_le (by simp)] at hall
      have HA := Lib.hid ha
      clear hall ha
      by_cases b1 : (1 : Int) ≤ n.size
      · by_cases b2 : (n.size : Int) ≤ 20
        · have he : nameB n = true := by unfold nameB; rw [HA.out, decide_eq_true (by omega), decide_eq_true (by omega)]; rfl
          have HE := Lib.hid he
          clear he
          go_wp2_with fail
          go_ret
          rw [HE.out]
          exact ⟨rfl, rfl⟩
        · have he : nameB n = false := by unfold nameB; rw [decide_eq_false (show ¬ n.size ≤ 20 by omega)]; simp
          have HE := Lib.hid he
          clear he
          go_wp2_with fail
          go_ret
          rw [HE.out]
          exact ⟨rfl, rfl⟩
      · have he : nameB n = false := by unfold nameB; rw [decide_eq_false (show ¬ 1 ≤ n.size by omega)]; simp
        have HE := Lib.hid he
        clear he
        go_wp2_with fail
        go_ret
        rw [HE.out]
        exact ⟨rfl, rfl⟩

theorem refUser_any (n s : ByteArray) (w : World) (hn : n.size ≤ maxLen) (hs : s.size ≤ maxLen) :
    Calls Tryz.prog 8 #[.agg #[.string n, .string s]] w fun e w' => e = .returned (.bool (rightB n s)) ∧ Kept (fun _ => False) w w' := by
  have NAME := Lib.hid (fun W => refName_any n W hn)
  have hr := nameB_right n s
  rw [← hr]
  clear hr
  generalize nameB n = nb at *
  by_cases c : s.size = 32
  · have c' : ((s.size : Int) == 32) = true := by rw [beq_iff_eq]; omega
    rw [decide_eq_true c]
    cases nb
    all_goals
      go_enter Tryz.func8, Tryz.ntmps8
      go_wp2_with fail
      refine (NAME.out _).mono ?_
      rintro e w1 ⟨rfl, rfl⟩
      go_wp2_with fail
      go_ret
      exact ⟨rfl, (Kept.refl _ _).alloc _⟩
  · have c' : ((s.size : Int) == 32) = false := by rw [beq_eq_false_iff_ne]; omega
    rw [decide_eq_false c]
    cases nb
    all_goals
      go_enter Tryz.func8, Tryz.ntmps8
      go_wp2_with fail
      refine (NAME.out _).mono ?_
      rintro e w1 ⟨rfl, rfl⟩
      go_wp2_with fail
      go_ret
      exact ⟨rfl, (Kept.refl _ _).alloc _⟩
end Go.Proofs.YtgfpcjieonniiaaGreat
