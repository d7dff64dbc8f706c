/-
  RingOne's walk: it returns true, whatever the number.
-/
import Derived.Test.YthchacmkeppjcaaRingB
namespace Go.Proofs.Ythchacmkeppjcaa
open Go.RowKit

theorem own_new {w w1 w2 : World} {b : Nat} {most : Int} (hk : Kept (fun _ => False) w w1) (hb : b = w1.heap.size) (hr : RingHas w2 b most [] (.slice none 0 0)) (hk2 : Kept (fun _ => False) w1 w2) : Own w w2 b most [] :=
  ⟨_, hr, hk.trans hk2 (fun _ _ h => h), fun k h => by
    rcases h with rfl | h
    · have := hk.size; omega
    · simp [Value.ownBlock] at h⟩

def oneNote (j : Nat) : Note := ⟨ByteArray.empty, (j : Int) + 1, ByteArray.empty, ((j : Int) + 1) % 2 == 0⟩

theorem lastn_one {α : Type} (l : List α) (x : α) : lastn 1 (l ++ [x]) = [x] := by simp [lastn]

set_option maxRecDepth 100000 in
set_option maxHeartbeats 800000 in
theorem ringOne_walk (n : Int) (w : World) :
    Calls Try.prog 5 #[.int .i64 n] w fun e w' => e = .returned (.bool true) ∧ Kept (fun _ => False) w w' := by
  by_cases hlo : n < 0
  · go_enter Try.func5, Try.ntmps5
    go_wp2_with (go_at_call 7; refine (alive_any _).mono ?_; rintro e w1 ⟨rfl, hk1⟩)
    go_ret
    exact ⟨rfl, hk1⟩
  by_cases hhi : 300 < n
  · go_enter Try.func5, Try.ntmps5
    go_wp2_with (go_at_call 7; refine (alive_any _).mono ?_; rintro e w1 ⟨rfl, hk1⟩)
    go_ret
    exact ⟨rfl, hk1⟩
  obtain ⟨m, rfl⟩ : ∃ m : Nat, n = m := ⟨n.toNat, by omega⟩
  have hm : m ≤ 300 := by omega
  clear hlo hhi
  go_enter Try.func5, Try.ntmps5
  go_wp2_with fail
  refine (alive_any _).mono ?_
  rintro e w1 ⟨rfl, hk1⟩
  go_wp2_with fail
  refine (new_has 0 _ (by omega) (by omega)).mono ?_
  rintro e w2 ⟨rfl, hr, hk2, hz⟩
  obtain ⟨b, hb⟩ : ∃ b, b = w1.heap.size := ⟨_, rfl⟩
  rw [← hb] at hr ⊢
  have hown : Own w w2 b 1 (opNotes oneNote 0) := own_new hk1 hb hr hk2
  clear hr hk1 hk2 hz hb
  go_wp2_with fail
  go_loopw [4] (fun k wr => ∃ i : Nat, i ≤ m ∧ k = .int .i64 ((i : Int) + 1) ∧ Own w wr b 1 (opNotes oneNote i)) (fun k _ => m + 1 - (intOf k).toNat)
  case atStart => exact ⟨0, by omega, rfl, hown⟩
  case round =>
    obtain ⟨i, hi, rfl, v, hr, hk, hF⟩ := hrel
    have hl := opNotes_length oneNote i
    have hl' : (opNotes oneNote i).length < 1000000 := by omega
    by_cases hlt : i < m
    · go_wp2_with fail
      refine (add_has b 1 _ v (oneNote i) _ rfl _ hr hl').mono ?_
      rintro e w2 ⟨rfl, ha⟩
      have hown := Own.added hk hF ha
      rw [← opNotes_succ oneNote i] at hown
      clear ha hr hk hF hl hl'
      go_wp2_with fail
      go_roundw
      case rel => exact ⟨i + 1, by omega, by go_num, hown⟩
      case measure => simp [intOf]; omega
    · obtain rfl : i = m := by omega
      have HLl := Lib.hid hl
      clear hl
      go_wp2_with fail
      refine (last_has b 1 _ v _ hr hl').mono ?_
      rintro e w2 ⟨u, rfl, hs, hk2, hu⟩
      have hr2 := hr.kept hk2 (fun _ _ h => h)
      have hkk : Kept (fun _ => False) w w2 := hk.trans hk2 (fun _ _ h => h)
      clear hr hk hk2
      have hl2 : (lastn (1 : Int).toNat (opNotes oneNote i)).length = min i 1 := by rw [lastn_length, HLl.out]; rfl
      have ht : ((opNotes oneNote i).length : Int) = i := by rw [HLl.out]
      have hL : ((min (opNotes oneNote i).length (1 : Int).toNat : Nat) : Int) = ((min i 1 : Nat) : Int) := by rw [HLl.out]; rfl
      rw [hl2] at hs hu
      have HA := Lib.hid hL
      have HB := Lib.hid ht
      clear hl2 hL ht
      rcases Nat.eq_zero_or_pos i with h0 | hpos
      · subst h0
        have hu0 : ∃ ao c, u = .slice ao 0 c := by
          rcases hu with ⟨h, _⟩ | ⟨g, off, cap, h, _⟩
          · exact ⟨_, _, h⟩
          · exact ⟨_, _, h⟩
        obtain ⟨ao, c, rfl⟩ := hu0
        clear hs hu
        go_wp2_with (first | (go_at_call 13; refine (total_has b 1 _ v 0 HB.out _ hr2).mono ?_; rintro e w3 ⟨rfl, rfl⟩) | (go_at_call 14; refine (len_has b 1 _ v 0 HA.out _ hr2).mono ?_; rintro e w3 ⟨rfl, rfl⟩))
        go_ret
        exact ⟨rfl, hkk⟩
      · obtain ⟨j, rfl⟩ : ∃ j, i = j + 1 := ⟨i - 1, by omega⟩
        have hx : lastn (1 : Int).toNat (opNotes oneNote (j + 1)) = [oneNote j] := by rw [opNotes_succ]; exact lastn_one _ _
        rw [hx] at hs
        rw [show min (j + 1) 1 = 1 by omega] at hs hu
        obtain ⟨g, off, cap, rfl, hg⟩ : ∃ g off cap, u = .slice (some ⟨g, off, none⟩) 1 cap ∧ wr.heap.size ≤ g := by
          rcases hu with ⟨_, h⟩ | h
          · omega
          · exact h
        have c0 := hs.cell rfl 0 (.string ByteArray.empty) rfl
        have c1 := hs.cell rfl 1 (.int .i64 ((j : Int) + 1)) rfl
        have c2 := hs.cell rfl 2 (.string ByteArray.empty) rfl
        have c3 := hs.cell rfl 3 (.bool (((j : Int) + 1) % 2 == 0)) rfl
        simp [Addr.add] at c0 c1 c2 c3
        clear hs hu hx hpos
        have hz : ((j : Int) + 1 == 0) = false := by rw [beq_eq_false_iff_ne]; omega
        have hA : ((min (opNotes oneNote (j + 1)).length (1 : Int).toNat : Nat) : Int) = 1 := by rw [HA.out]; omega
        have hB : ((opNotes oneNote (j + 1)).length : Int) = (j : Int) + 1 := by rw [HB.out]; omega
        have HA2 := Lib.hid hA
        have HB2 := Lib.hid hB
        clear hA hB
        go_wp2_with (first | (go_at_call 13; refine (total_has b 1 _ v ((j : Int) + 1) HB2.out _ hr2).mono ?_; rintro e w3 ⟨rfl, rfl⟩) | (go_at_call 14; refine (len_has b 1 _ v 1 HA2.out _ hr2).mono ?_; rintro e w3 ⟨rfl, rfl⟩))
        · go_ret
          exact ⟨rfl, hkk⟩
        · go_ret
          refine ⟨?_, hkk⟩
          have hj : j = 0 := by omega
          subst hj
          rfl
end Go.Proofs.Ythchacmkeppjcaa
