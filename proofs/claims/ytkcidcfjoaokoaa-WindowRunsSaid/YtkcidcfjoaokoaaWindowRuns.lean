/-
  The law WindowRuns.
-/
import Derived.Test.YtkcidcfjoaokoaaWinIv
namespace Go.Proofs.Ytkcidcfjoaokoaa
open Go.RowKit Go.Maps
set_option maxRecDepth 100000

set_option maxHeartbeats 4000000 in
theorem windowRuns_walk (n back ahead : Int) (w : World) (hn0 : -9223372036854775808 ≤ n) (hn1 : n ≤ 9223372036854775807) (hb0 : -9223372036854775808 ≤ back) (hb1 : back ≤ 9223372036854775807) (ha0 : -9223372036854775808 ≤ ahead) (ha1 : ahead ≤ 9223372036854775807) :
    Calls Try.prog 5 #[.int .i64 n, .int .i64 back, .int .i64 ahead] w fun e w' => e = .returned (.bool true) ∧ Kept (fun _ => False) w w' := by
  by_cases c1 : n < 0
  · go_enter Try.func5, Try.ntmps5
    go_wp2_with (go_at_call 8; refine (alive_any _).mono ?_; rintro e w1 ⟨rfl, hk1⟩)
    go_ret
    exact ⟨rfl, hk1⟩
  by_cases c2 : 300 < n
  · go_enter Try.func5, Try.ntmps5
    go_wp2_with (go_at_call 8; refine (alive_any _).mono ?_; rintro e w1 ⟨rfl, hk1⟩)
    go_ret
    exact ⟨rfl, hk1⟩
  by_cases c3 : back < 0
  · go_enter Try.func5, Try.ntmps5
    go_wp2_with (go_at_call 8; refine (alive_any _).mono ?_; rintro e w1 ⟨rfl, hk1⟩)
    go_ret
    exact ⟨rfl, hk1⟩
  by_cases c4 : ahead < 0
  · go_enter Try.func5, Try.ntmps5
    go_wp2_with (go_at_call 8; refine (alive_any _).mono ?_; rintro e w1 ⟨rfl, hk1⟩)
    go_ret
    exact ⟨rfl, hk1⟩
  by_cases c5 : 200 < ahead
  · go_enter Try.func5, Try.ntmps5
    go_wp2_with (go_at_call 8; refine (alive_any _).mono ?_; rintro e w1 ⟨rfl, hk1⟩)
    go_ret
    exact ⟨rfl, hk1⟩
  obtain ⟨N, rfl⟩ : ∃ N : Nat, n = N := ⟨n.toNat, by omega⟩
  have d1 : N ≤ 300 := by omega
  have d2 : 0 ≤ back := by omega
  have d3 : 0 ≤ ahead := by omega
  have d4 : ahead ≤ 200 := by omega
  clear c1 c2 c3 c4 c5 hn0 hn1 ha0 ha1 hb0
  go_enter Try.func5, Try.ntmps5
  go_wp2_with fail
  refine (alive_any _).mono ?_
  rintro e w1 ⟨rfl, hk1⟩
  have hown := Lib.hid (OwnW.new hk1)
  go_wp2_with fail
  go_loopg [8] N (fun gk k wr => ∃ i : Nat, i + gk = N ∧ k = .int .i64 (i : Int) ∧ ∃ c, c ≤ i ∧ OwnW w wr w1.heap.size (i : Int) c (fun _ => false))
  case atStart => exact ⟨0, by omega, rfl, 0, by omega, hown.out⟩
  case round =>
    clear hown hk1
    generalize w1.heap.size = b at *
    obtain ⟨i, hi, rfl, c, hc, hT⟩ := hrel
    have HT := Lib.hid hT
    clear hT
    by_cases hlt : i < N
    · go_wp2_with fail
      refine (take_next b (i : Int) c HT.out (by omega) (by omega) (by omega)).mono ?_
      rintro e w2 ⟨rfl, c2, hc2, h2⟩
      have HT2 := Lib.hid h2
      clear h2
      go_wp2_with fail
      refine (next_own b _ c2 _ HT2.out).mono ?_
      rintro e w3 ⟨rfl, rfl⟩
      go_wp2_with fail
      go_roundg (gk - 1)
      case measure => omega
      case rel => exact ⟨i + 1, by omega, by go_num, c2, by omega, by have := HT2.out; rwa [show ((i + 1 : Nat) : Int) = (i : Int) + 1 by omega]⟩
    · obtain rfl : i = N := by omega
      have AL := Lib.hid (fun (W : World) (c : Nat) (hc : c ≤ 1000) (h : OwnW w W b (i : Int) c (fun _ => false)) => ahead_len b (i : Int) c (fun _ => false) 0 h (by omega) (by rw [aheadL_none]; rfl))
      have MY := Lib.hid (fun (W : World) (c : Nat) (h : OwnW w W b (i : Int) c (fun _ => false)) => may_own b (i : Int) c (fun _ => false) ((i : Int) + ahead) (decide (ahead < 64)) (by rw [show (i : Int) + ahead = (i : Int) + ahead from rfl, Bool.eq_iff_iff]; simp only [mayB, Bool.and_eq_true, decide_eq_true_eq, Bool.not_false, and_true]; omega) h (by omega) (by omega))
      by_cases hbn : (i : Int) ≤ back
      · go_wp2_with fail
        refine (MY.out _ c HT.out).mono ?_
        rintro e w2 ⟨rfl, rfl⟩
        go_wp2_with fail
        refine (AL.out _ c (by omega) HT.out).mono ?_
        rintro e w3 ⟨ao, cap, rfl, h3⟩
        have HK := Lib.hid h3.facts.1
        clear h3
        go_wp2_with fail
        go_ret
        exact ⟨rfl, HK.out⟩
      · go_wp2_with fail
        refine (take_not b (i : Int) c _ ((i : Int) - 1 - back) HT.out (by simp [mayB]; omega) (by omega) (by omega) (by omega) (by omega)).mono ?_
        rintro e w2 ⟨rfl, c2, hc2, h2⟩
        have HT2 := Lib.hid h2
        clear h2
        go_wp2_with fail
        refine (MY.out _ c2 HT2.out).mono ?_
        rintro e w3 ⟨rfl, rfl⟩
        go_wp2_with fail
        refine (AL.out _ c2 (by omega) HT2.out).mono ?_
        rintro e w3 ⟨ao, cap, rfl, h3⟩
        have HK := Lib.hid h3.facts.1
        clear h3
        go_wp2_with fail
        go_ret
        exact ⟨rfl, HK.out⟩
end Go.Proofs.Ytkcidcfjoaokoaa
