/-
  The law WindowGaps.
-/
import Derived.Test.YtkcidcfjoaokoaaWinIv
namespace Go.Proofs.Ytkcidcfjoaokoaa
open Go.RowKit Go.Maps
set_option maxRecDepth 100000

set_option maxHeartbeats 4000000 in
theorem windowGaps_walk (gap n : Int) (w : World) (hg0 : -9223372036854775808 ≤ gap) (hg1 : gap ≤ 9223372036854775807) (hn0 : -9223372036854775808 ≤ n) (hn1 : n ≤ 9223372036854775807) :
    Calls Try.prog 6 #[.int .i64 gap, .int .i64 n] w fun e w' => e = .returned (.bool true) ∧ Kept (fun _ => False) w w' := by
  by_cases c1 : gap < 0
  · go_enter Try.func6, Try.ntmps6
    go_wp2_with (go_at_call 8; refine (alive_any _).mono ?_; rintro e w1 ⟨rfl, hk1⟩)
    go_ret
    exact ⟨rfl, hk1⟩
  by_cases c2 : 40 < gap
  · go_enter Try.func6, Try.ntmps6
    go_wp2_with (go_at_call 8; refine (alive_any _).mono ?_; rintro e w1 ⟨rfl, hk1⟩)
    go_ret
    exact ⟨rfl, hk1⟩
  by_cases c3 : n < 0
  · go_enter Try.func6, Try.ntmps6
    go_wp2_with (go_at_call 8; refine (alive_any _).mono ?_; rintro e w1 ⟨rfl, hk1⟩)
    go_ret
    exact ⟨rfl, hk1⟩
  by_cases c4 : 60 < n
  · go_enter Try.func6, Try.ntmps6
    go_wp2_with (go_at_call 8; refine (alive_any _).mono ?_; rintro e w1 ⟨rfl, hk1⟩)
    go_ret
    exact ⟨rfl, hk1⟩
  obtain ⟨G, rfl⟩ : ∃ G : Nat, gap = G := ⟨gap.toNat, by omega⟩
  obtain ⟨N, rfl⟩ : ∃ N : Nat, n = N := ⟨n.toNat, by omega⟩
  have d1 : G ≤ 40 := by omega
  have d2 : N ≤ 60 := by omega
  clear c1 c2 c3 c4 hn0 hn1 hg0 hg1
  go_enter Try.func6, Try.ntmps6
  go_wp2_with fail
  refine (alive_any _).mono ?_
  rintro e w1 ⟨rfl, hk1⟩
  have hown := Lib.hid (OwnW.new hk1)
  go_wp2_with fail
  go_loopg [6] G (fun gk k wr => ∃ i : Nat, i + gk = G ∧ k = .int .i64 (i : Int) ∧ ∃ c, c ≤ i ∧ OwnW w wr w1.heap.size (i : Int) c (fun _ => false))
  case atStart => exact ⟨0, by omega, rfl, 0, by omega, hown.out⟩
  case round =>
    clear hown hk1
    generalize w1.heap.size = b at *
    obtain ⟨i, hi, rfl, c, hc, hT⟩ := hrel
    have HT := Lib.hid hT
    clear hT
    by_cases hlt : i < G
    · go_wp2_with fail
      refine (take_next b (i : Int) c HT.out (by omega) (by omega) (by omega)).mono ?_
      rintro e w2 ⟨rfl, c2, hc2, h2⟩
      have HT2 := Lib.hid h2
      clear h2
      go_wp2_with fail
      go_roundg (gk - 1)
      case measure => omega
      case rel => exact ⟨i + 1, by omega, by go_num, c2, by omega, by have := HT2.out; rwa [show ((i + 1 : Nat) : Int) = (i : Int) + 1 by omega]⟩
    · obtain rfl : i = G := by omega
      have J1 : Hid (OwnW w wr b (i : Int) c (iv ((i : Int) + 1) ((i : Int) + 1 + (0 : Nat)))) := Lib.hid (by rw [iv_none _ _ (by omega)]; exact HT.out)
      go_wp2_with fail
      go_loopg [7] N (fun gk k wr => ∃ j : Nat, j + gk = N ∧ k = .int .i64 ((j : Int) + 1) ∧ ∃ c, c ≤ i + j ∧ OwnW w wr b (i : Int) c (iv ((i : Int) + 1) ((i : Int) + 1 + j)))
      case atStart => exact ⟨0, by omega, rfl, c, by omega, J1.out⟩
      case round =>
        obtain ⟨j, hj, rfl, c', hc', hT'⟩ := hrel
        have HT' := Lib.hid hT'
        clear hT'
        by_cases hlt : j < N
        · go_wp2_with fail
          rw [show (i : Int) + ((j : Int) + 1) = (i : Int) + 1 + j by omega]
          refine (take_above b (i : Int) j c' HT'.out (by omega) (by omega) (by omega) (by omega)).mono ?_
          rintro e w2 ⟨rfl, c2, hc2, h2⟩
          have HT2 := Lib.hid h2
          clear h2
          go_wp2_with fail
          go_roundg (gk - 1)
          case measure => omega
          case rel => exact ⟨j + 1, by omega, by go_num, c2, by omega, HT2.out⟩
        · obtain rfl : j = N := by omega
          have hjl : ¬ (j : Int) + 1 ≤ j := by omega
          go_wp2_with fail
          refine (next_own b _ c' _ HT'.out).mono ?_
          rintro e w3 ⟨rfl, rfl⟩
          go_wp2_with fail
          refine (ahead_len b (i : Int) c' _ j HT'.out (by omega) (aheadL_iv _ j (by omega))).mono ?_
          rintro e w4 ⟨ao, cap, rfl, h4⟩
          have HT4 := Lib.hid h4
          clear h4
          go_wp2_with fail
          refine (take_gap b (i : Int) j c' HT4.out (by omega) (by omega) (by omega)).mono ?_
          rintro e w5 ⟨rfl, c5, hc5, h5⟩
          have HT5 : Hid (OwnW w w5 b ((i : Int) + j + 1) c5 (fun _ => false)) := Lib.hid (by rwa [show (i : Int) + j + 1 = (i : Int) + 1 + j by omega])
          clear h5
          go_wp2_with fail
          refine (next_own b _ c5 _ HT5.out).mono ?_
          rintro e w6 ⟨rfl, rfl⟩
          go_wp2_with fail
          refine (ahead_len b _ c5 _ 0 HT5.out (by omega) (by rw [aheadL_none]; rfl)).mono ?_
          rintro e w7 ⟨ao7, cap7, rfl, h7⟩
          have HK := Lib.hid h7.facts.1
          clear h7
          go_wp2_with fail
          go_ret
          exact ⟨rfl, HK.out⟩
end Go.Proofs.Ytkcidcfjoaokoaa
