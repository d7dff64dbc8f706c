/-
  RingGreat's walk: it returns true, whatever the numbers.
-/
import Derived.Test.YthchacmkeppjcaaRingB
namespace Go.Proofs.Ythchacmkeppjcaa
open Go.RowKit

theorem lastn_ops_at (a M i : Nat) (h : i < (lastn M (opNotes (fun j => opNote j) a)).length) : (lastn M (opNotes (fun j => opNote j) a))[i] = opNote ((a - M + i : Nat) : Int) := by
  simp [lastn, opNotes]

theorem own_new2 {w w1 w2 : World} {b : Nat} {most : Int} (hk : Kept (fun _ => False) w w1) (hb : b = w1.heap.size) (hr : RingHas w2 b most [] (.slice none 0 0)) (hk2 : Kept (fun _ => False) w1 w2) : Own w w2 b most [] :=
  ⟨_, hr, hk.trans hk2 (fun _ _ h => h), fun k h => by
    rcases h with rfl | h
    · have := hk.size; omega
    · simp [Value.ownBlock] at h⟩

set_option maxRecDepth 100000 in
set_option maxHeartbeats 800000 in
theorem ringGreat_walk (n adds : Int) (w : World) (hn0 : -9223372036854775808 ≤ n) (hn1 : n ≤ 9223372036854775807) :
    Calls Try.prog 6 #[.int .i64 n, .int .i64 adds] w fun e w' => e = .returned (.bool true) ∧ Kept (fun _ => False) w w' := by
  by_cases hlo : adds < 0
  · go_enter Try.func6, Try.ntmps6
    go_wp2_with (go_at_call 7; refine (alive_any _).mono ?_; rintro e w1 ⟨rfl, hk1⟩)
    go_ret
    exact ⟨rfl, hk1⟩
  by_cases hhi : 120 < adds
  · go_enter Try.func6, Try.ntmps6
    go_wp2_with (go_at_call 7; refine (alive_any _).mono ?_; rintro e w1 ⟨rfl, hk1⟩)
    go_ret
    exact ⟨rfl, hk1⟩
  obtain ⟨m, rfl⟩ : ∃ m : Nat, adds = m := ⟨adds.toNat, by omega⟩
  have hm : m ≤ 120 := by omega
  clear hlo hhi
  go_enter Try.func6, Try.ntmps6
  go_wp2_with fail
  refine (alive_any _).mono ?_
  rintro e w1 ⟨rfl, hk1⟩
  go_wp2_with fail
  refine (new_has n _ hn0 hn1).mono ?_
  rintro e w2 ⟨rfl, hr, hk2, hz⟩
  obtain ⟨b, hb⟩ : ∃ b, b = w1.heap.size := ⟨_, rfl⟩
  rw [← hb] at hr ⊢
  obtain ⟨M, hM⟩ : ∃ M : Int, M = min (max n 1) 50 := ⟨_, rfl⟩
  rw [← hM] at hr
  have hM1 : 1 ≤ M := by omega
  have hM2 : M ≤ 50 := by omega
  have HM := Lib.hid hM
  have hown : Own w w2 b M (opNotes (fun j => opNote j) 0) := own_new2 hk1 hb hr hk2
  clear hr hk1 hk2 hz hb hM
  go_wp2_with fail
  go_loopw [6] (fun k wr => ∃ i : Nat, i ≤ m ∧ k = .int .i64 (i : Int) ∧ Own w wr b M (opNotes (fun j => opNote j) i)) (fun k _ => m - (intOf k).toNat)
  case atStart => exact ⟨0, by omega, rfl, hown⟩
  case round =>
    obtain ⟨i, hi, rfl, v, hr, hk, hF⟩ := hrel
    have hl := opNotes_length (fun j => opNote j) i
    have hl' : (opNotes (fun j => opNote j) i).length < 1000000 := by omega
    by_cases hlt : i < m
    · go_wp2_with fail
      refine (add_has b M _ v (opNote i) _ rfl _ hr hl').mono ?_
      rintro e w2 ⟨rfl, ha⟩
      have hown := Own.added hk hF ha
      rw [← opNotes_succ (fun j => opNote j) i] at hown
      clear ha hr hk hF hl hl'
      go_wp2_with fail
      go_roundw
      case rel => exact ⟨i + 1, by omega, by go_num, hown⟩
      case measure => simp [intOf]; omega
    · obtain rfl : i = m := by omega
      have HLl := Lib.hid hl
      clear hl
      go_upto_region 10 with (fail)
      go_cut [7] (fun s7 wc' => s7 = .int .i64 M ∧ wr = wc')
      case first =>
        go_wp2_with fail
        all_goals
          go_meet
          case rel => exact ⟨congrArg (Value.int .i64) (by have := HM.out; omega), rfl⟩
      case rest =>
        obtain ⟨rfl, rfl⟩ := hcut
        go_wp2_with fail
        refine (last_has b M _ v _ hr hl').mono ?_
        rintro e w2 ⟨u, rfl, hs, hk2, hu⟩
        have hkk : Kept (fun _ => False) w w2 := hk.trans hk2 (fun _ _ h => h)
        obtain ⟨L, hL⟩ : ∃ L, L = (lastn M.toNat (opNotes (fun j => opNote j) i)).length := ⟨_, rfl⟩
        have hL2 : L = min i M.toNat := by rw [hL, lastn_length, HLl.out]
        rw [← hL] at hs hu
        clear hr hk hk2
        have hu0 : ∃ ao c, u = .slice ao L c := by
          rcases hu with ⟨h, h0⟩ | ⟨g, off, cap, h, _⟩
          · rw [h0]; exact ⟨_, _, h⟩
          · exact ⟨_, _, h⟩
        obtain ⟨ao, c, rfl⟩ := hu0
        have hLi : L ≤ i := by omega
        have hcells : ∀ j, j < L → ∃ g off, ao = some ⟨g, off, none⟩ ∧ w2.cell? ⟨g, off + j * 4 + 1, none⟩ = some (.int .i64 ((i : Int) - L + j)) := by
          intro j hj
          rcases hu with ⟨h, h0⟩ | ⟨g, off, cap, h, _⟩
          · omega
          · injection h with h1 h2 h3
            subst h1
            refine ⟨g, off, rfl, ?_⟩
            have h4 := hs.cell rfl (j * 4 + 1) (.int .i64 ((i : Int) - L + j)) (by
              rw [flat_at _ j (hL ▸ hj) 1 (by omega), lastn_ops_at]
              simp only [Note.cells, opNote]
              show some _ = some _
              congr 2
              omega)
            rwa [Addr.add_lit, ← Nat.add_assoc] at h4
        have HL := Lib.hid hL2
        have HC := Lib.hid hcells
        clear hL hL2 hcells hs hu
        go_upto_region 12 with (fail)
        go_cut [44] (fun s wc' => s = .bool false ∧ w2 = wc')
        case first =>
          go_wp2_with fail
          all_goals
            go_meet
            case rel =>
              have hL3 := HL.out
              refine ⟨congrArg Value.bool ?_, rfl⟩
              simp
              omega
        case rest =>
          obtain ⟨rfl, rfl⟩ := hcut
          go_wp2_with fail
          go_loop [9] (fun k => ∃ j : Nat, j ≤ L ∧ k = .int .i64 (j : Int)) (fun k => L - (intOf k).toNat)
          case atStart => exact ⟨0, by omega, rfl⟩
          case round =>
            obtain ⟨j, hj, rfl⟩ := hrel
            by_cases hlt : j < L
            · obtain ⟨g, off, rfl, hcell⟩ := HC.out j hlt
              go_wp2_with fail
              go_round
              case rel => exact ⟨j + 1, by omega, by go_num⟩
              case measure => simp [intOf]; omega
            · go_wp2_with fail
              go_ret
              exact ⟨rfl, hkk⟩
end Go.Proofs.Ythchacmkeppjcaa
