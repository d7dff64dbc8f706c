/-
  CacheExpires: an item is there till its last tick: the walk.
-/
import Derived.Test.YtehpafebpgndeaaGreatDoorCacheW
namespace Go.Proofs.YtehpafebpgndeaaGreatDoor
set_option linter.unusedVariables false
set_option linter.unusedSimpArgs false
set_option linter.unnecessarySimpa false
open Go.RowKit
set_option maxRecDepth 100000

set_option maxHeartbeats 8000000 in
theorem cacheExpires_walk (n ask more : Int) (w : World) (hL : Laid w) (hn0 : -9223372036854775808 ≤ n) (hn1 : n ≤ 9223372036854775807) (ha0 : -9223372036854775808 ≤ ask) (ha1 : ask ≤ 9223372036854775807) (hm0 : -9223372036854775808 ≤ more) (hm1 : more ≤ 9223372036854775807) :
    Calls Tryz.prog 6 #[.int .i64 n, .int .i64 ask, .int .i64 more] w fun e w' => e = .returned (.bool true) ∧ Kept (fun _ => False) w w' := by
  have AL := Lib.hid (alive_true w hL)
  have HL := Lib.hid hL
  clear hL
  by_cases g1 : n < 1
  · go_enter Tryz.func6, Tryz.ntmps6
    go_wp2_with fail
    refine AL.out.mono ?_
    rintro e w1 ⟨rfl, hk⟩
    have HK := Lib.hid hk
    clear hk
    go_wp2_with fail
    go_ret
    exact ⟨rfl, HK.out⟩
  by_cases g2 : 50 < n
  · go_enter Tryz.func6, Tryz.ntmps6
    go_wp2_with fail
    refine AL.out.mono ?_
    rintro e w1 ⟨rfl, hk⟩
    have HK := Lib.hid hk
    clear hk
    go_wp2_with fail
    go_ret
    exact ⟨rfl, HK.out⟩
  by_cases g3 : ask < 0
  · go_enter Tryz.func6, Tryz.ntmps6
    go_wp2_with fail
    refine AL.out.mono ?_
    rintro e w1 ⟨rfl, hk⟩
    have HK := Lib.hid hk
    clear hk
    go_wp2_with fail
    go_ret
    exact ⟨rfl, HK.out⟩
  by_cases g4 : 120 < ask
  · go_enter Tryz.func6, Tryz.ntmps6
    go_wp2_with fail
    refine AL.out.mono ?_
    rintro e w1 ⟨rfl, hk⟩
    have HK := Lib.hid hk
    clear hk
    go_wp2_with fail
    go_ret
    exact ⟨rfl, HK.out⟩
  by_cases g5 : more < 1
  · go_enter Tryz.func6, Tryz.ntmps6
    go_wp2_with fail
    refine AL.out.mono ?_
    rintro e w1 ⟨rfl, hk⟩
    have HK := Lib.hid hk
    clear hk
    go_wp2_with fail
    go_ret
    exact ⟨rfl, HK.out⟩
  by_cases g6 : 50 < more
  · go_enter Tryz.func6, Tryz.ntmps6
    go_wp2_with fail
    refine AL.out.mono ?_
    rintro e w1 ⟨rfl, hk⟩
    have HK := Lib.hid hk
    clear hk
    go_wp2_with fail
    go_ret
    exact ⟨rfl, HK.out⟩
  have HW1 := Lib.hid (show wrap64 (10 + ask) = 10 + ask by unfold wrap64; omega)
  have HW2 := Lib.hid (show wrap64 (10 + n) = 10 + n by unfold wrap64; omega)
  have HW3 := Lib.hid (show wrap64 (10 + n + ask) = 10 + n + ask by unfold wrap64; omega)
  go_enter Tryz.func6, Tryz.ntmps6
  go_wp2_with fail
  refine AL.out.mono ?_
  rintro e w1 ⟨rfl, hk⟩
  have NEW := Lib.hid (own_newc hk HL.out 1000 (by decide) (by decide))
  clear hk
  go_wp2_with fail
  refine NEW.out.mono ?_
  rintro e w2 ⟨c, rfl, o2⟩
  have DO1 := Lib.hid (own_do o2 (by omega) ⟨2, ⟨#[107]⟩, ⟨#[118]⟩, n, 0⟩ (10) (show (⟨#[107]⟩ : ByteArray).size ≤ 1000000000 by decide) (show (⟨#[118]⟩ : ByteArray).size ≤ 1000000000 by decide) (show (2 : Int) ≠ 11 by decide) (show (2 : Int) ≠ 12 by decide) (exp_set (n := n) (by omega) (by omega)))
  clear o2 NEW
  go_wp2_with fail
  refine DO1.out.mono ?_
  rintro e w3 ⟨rfl, o3⟩
  have DO2 := Lib.hid (own_do o3 (by omega) ⟨10, ⟨#[107]⟩, ⟨#[]⟩, 0, 0⟩ (10) (show (⟨#[107]⟩ : ByteArray).size ≤ 1000000000 by decide) (show (⟨#[]⟩ : ByteArray).size ≤ 1000000000 by decide) (show (10 : Int) ≠ 11 by decide) (show (10 : Int) ≠ 12 by decide) (exp_ttl (n := n) (by omega) (by omega)))
  clear o3 DO1
  go_wp2_with fail
  refine DO2.out.mono ?_
  rintro e w4 ⟨rfl, o4⟩
  obtain ⟨b1, hb1⟩ : ∃ b1, w4.heap.size = b1 := ⟨_, rfl⟩
  have O4 := Lib.hid (o4.alloc (rpO ⟨0, ⟨#[]⟩, n, 0, []⟩ (.slice none 0 0)))
  clear o4 DO2
  rw [hb1] at O4
  have HB1 := Lib.hid hb1
  clear hb1
  by_cases h1 : ask ≤ n
  · by_cases h2 : ask ≤ more
    · have DO3 := Lib.hid (own_do O4.out (by omega) ⟨1, ⟨#[107]⟩, ⟨#[]⟩, 0, 0⟩ (10 + ask) (show (⟨#[107]⟩ : ByteArray).size ≤ 1000000000 by decide) (show (⟨#[]⟩ : ByteArray).size ≤ 1000000000 by decide) (show (1 : Int) ≠ 11 by decide) (show (1 : Int) ≠ 12 by decide) (exp_get (u := 10 + n) (now := 10 + ask) (by omega) (by omega) (by omega) (by omega)))
      have hw1 := HW1.out
      go_wp2_with fail
      clear hw1
      refine DO3.out.mono ?_
      rintro e w5 ⟨rfl, o5⟩
      obtain ⟨f0, f1, f2, f3, f4, f5⟩ := rp_facts (o5.2.box (b1, rpO ⟨0, ⟨#[]⟩, n, 0, []⟩ (.slice none 0 0)) (.head _)).1
      simp only at f0 f1 f2 f3 f4
      have O5 := Lib.hid (o5.alloc (rpO ⟨0, vB, 0, 1, []⟩ (.slice none 0 0)))
      have IT := Lib.hid (own_items O5.out)
      clear o5 DO3
      rw [HB1.out]
      go_wp2_with fail
      refine IT.out.mono ?_
      rintro e w6 ⟨v, B6, rfl, o6, hB6, -, ao, ca, rfl⟩
      have NEW2 := Lib.hid (own_newc o6.keep HL.out 1000 (by decide) (by decide))
      clear o6 hB6 IT
      go_wp2_with fail
      refine NEW2.out.mono ?_
      rintro e w7 ⟨d, rfl, o7⟩
      have DO4 := Lib.hid (own_do o7 (by omega) ⟨2, ⟨#[107]⟩, ⟨#[118]⟩, n, 0⟩ (10) (show (⟨#[107]⟩ : ByteArray).size ≤ 1000000000 by decide) (show (⟨#[118]⟩ : ByteArray).size ≤ 1000000000 by decide) (show (2 : Int) ≠ 11 by decide) (show (2 : Int) ≠ 12 by decide) (exp_set (n := n) (by omega) (by omega)))
      clear o7 NEW2
      go_wp2_with fail
      refine DO4.out.mono ?_
      rintro e w8 ⟨rfl, o8⟩
      have DO5 := Lib.hid (own_do o8 (by omega) ⟨9, ⟨#[107]⟩, ⟨#[]⟩, more, 0⟩ (10 + n) (show (⟨#[107]⟩ : ByteArray).size ≤ 1000000000 by decide) (show (⟨#[]⟩ : ByteArray).size ≤ 1000000000 by decide) (show (9 : Int) ≠ 11 by decide) (show (9 : Int) ≠ 12 by decide) (exp_touch (n := n) (more := more) (by omega) (by omega) (by omega) (by omega)))
      clear o8 DO4
      have hw2 := HW2.out
      go_wp2_with fail
      refine DO5.out.mono ?_
      rintro e w9 ⟨rfl, o9⟩
      have DO6 := Lib.hid (own_do o9 (by omega) ⟨1, ⟨#[107]⟩, ⟨#[]⟩, 0, 0⟩ (10 + n + ask) (show (⟨#[107]⟩ : ByteArray).size ≤ 1000000000 by decide) (show (⟨#[]⟩ : ByteArray).size ≤ 1000000000 by decide) (show (1 : Int) ≠ 11 by decide) (show (1 : Int) ≠ 12 by decide) (exp_get (u := 10 + n + more) (now := 10 + n + ask) (by omega) (by omega) (by omega) (by omega)))
      clear o9 DO5
      have hw3 := HW3.out
      go_wp2_with fail
      refine DO6.out.mono ?_
      rintro e w10 ⟨rfl, o10⟩
      have KE := Lib.hid (o10.alloc (rpO ⟨0, vB, 0, 1, []⟩ (.slice none 0 0))).keep
      clear o10 DO6
      go_wp2_with fail
      go_ret
      exact ⟨by first | rfl | (simp; done) | (simp; omega), KE.out⟩
    · have DO3 := Lib.hid (own_do O4.out (by omega) ⟨1, ⟨#[107]⟩, ⟨#[]⟩, 0, 0⟩ (10 + ask) (show (⟨#[107]⟩ : ByteArray).size ≤ 1000000000 by decide) (show (⟨#[]⟩ : ByteArray).size ≤ 1000000000 by decide) (show (1 : Int) ≠ 11 by decide) (show (1 : Int) ≠ 12 by decide) (exp_get (u := 10 + n) (now := 10 + ask) (by omega) (by omega) (by omega) (by omega)))
      have hw1 := HW1.out
      go_wp2_with fail
      clear hw1
      refine DO3.out.mono ?_
      rintro e w5 ⟨rfl, o5⟩
      obtain ⟨f0, f1, f2, f3, f4, f5⟩ := rp_facts (o5.2.box (b1, rpO ⟨0, ⟨#[]⟩, n, 0, []⟩ (.slice none 0 0)) (.head _)).1
      simp only at f0 f1 f2 f3 f4
      have O5 := Lib.hid (o5.alloc (rpO ⟨0, vB, 0, 1, []⟩ (.slice none 0 0)))
      have IT := Lib.hid (own_items O5.out)
      clear o5 DO3
      rw [HB1.out]
      go_wp2_with fail
      refine IT.out.mono ?_
      rintro e w6 ⟨v, B6, rfl, o6, hB6, -, ao, ca, rfl⟩
      have NEW2 := Lib.hid (own_newc o6.keep HL.out 1000 (by decide) (by decide))
      clear o6 hB6 IT
      go_wp2_with fail
      refine NEW2.out.mono ?_
      rintro e w7 ⟨d, rfl, o7⟩
      have DO4 := Lib.hid (own_do o7 (by omega) ⟨2, ⟨#[107]⟩, ⟨#[118]⟩, n, 0⟩ (10) (show (⟨#[107]⟩ : ByteArray).size ≤ 1000000000 by decide) (show (⟨#[118]⟩ : ByteArray).size ≤ 1000000000 by decide) (show (2 : Int) ≠ 11 by decide) (show (2 : Int) ≠ 12 by decide) (exp_set (n := n) (by omega) (by omega)))
      clear o7 NEW2
      go_wp2_with fail
      refine DO4.out.mono ?_
      rintro e w8 ⟨rfl, o8⟩
      have DO5 := Lib.hid (own_do o8 (by omega) ⟨9, ⟨#[107]⟩, ⟨#[]⟩, more, 0⟩ (10 + n) (show (⟨#[107]⟩ : ByteArray).size ≤ 1000000000 by decide) (show (⟨#[]⟩ : ByteArray).size ≤ 1000000000 by decide) (show (9 : Int) ≠ 11 by decide) (show (9 : Int) ≠ 12 by decide) (exp_touch (n := n) (more := more) (by omega) (by omega) (by omega) (by omega)))
      clear o8 DO4
      have hw2 := HW2.out
      go_wp2_with fail
      refine DO5.out.mono ?_
      rintro e w9 ⟨rfl, o9⟩
      have DO6 := Lib.hid (own_do o9 (by omega) ⟨1, ⟨#[107]⟩, ⟨#[]⟩, 0, 0⟩ (10 + n + ask) (show (⟨#[107]⟩ : ByteArray).size ≤ 1000000000 by decide) (show (⟨#[]⟩ : ByteArray).size ≤ 1000000000 by decide) (show (1 : Int) ≠ 11 by decide) (show (1 : Int) ≠ 12 by decide) (exp_over (u := 10 + n + more) (now := 10 + n + ask) (by omega) (by omega) (by omega) (by omega)))
      clear o9 DO5
      have hw3 := HW3.out
      go_wp2_with fail
      refine DO6.out.mono ?_
      rintro e w10 ⟨rfl, o10⟩
      have KE := Lib.hid (o10.alloc (rpO (Rp.err 9) (.slice none 0 0))).keep
      clear o10 DO6
      go_wp2_with fail
      go_ret
      exact ⟨by first | rfl | (simp; done) | (simp; omega), KE.out⟩
  · by_cases h2 : ask ≤ more
    · have DO3 := Lib.hid (own_do O4.out (by omega) ⟨1, ⟨#[107]⟩, ⟨#[]⟩, 0, 0⟩ (10 + ask) (show (⟨#[107]⟩ : ByteArray).size ≤ 1000000000 by decide) (show (⟨#[]⟩ : ByteArray).size ≤ 1000000000 by decide) (show (1 : Int) ≠ 11 by decide) (show (1 : Int) ≠ 12 by decide) (exp_over (u := 10 + n) (now := 10 + ask) (by omega) (by omega) (by omega) (by omega)))
      have hw1 := HW1.out
      go_wp2_with fail
      clear hw1
      refine DO3.out.mono ?_
      rintro e w5 ⟨rfl, o5⟩
      obtain ⟨f0, f1, f2, f3, f4, f5⟩ := rp_facts (o5.2.box (b1, rpO ⟨0, ⟨#[]⟩, n, 0, []⟩ (.slice none 0 0)) (.head _)).1
      simp only at f0 f1 f2 f3 f4
      have O5 := Lib.hid (o5.alloc (rpO (Rp.err 9) (.slice none 0 0)))
      have IT := Lib.hid (own_items O5.out)
      clear o5 DO3
      rw [HB1.out]
      go_wp2_with fail
      refine IT.out.mono ?_
      rintro e w6 ⟨v, B6, rfl, o6, hB6, -, ao, ca, rfl⟩
      have NEW2 := Lib.hid (own_newc o6.keep HL.out 1000 (by decide) (by decide))
      clear o6 hB6 IT
      go_wp2_with fail
      refine NEW2.out.mono ?_
      rintro e w7 ⟨d, rfl, o7⟩
      have DO4 := Lib.hid (own_do o7 (by omega) ⟨2, ⟨#[107]⟩, ⟨#[118]⟩, n, 0⟩ (10) (show (⟨#[107]⟩ : ByteArray).size ≤ 1000000000 by decide) (show (⟨#[118]⟩ : ByteArray).size ≤ 1000000000 by decide) (show (2 : Int) ≠ 11 by decide) (show (2 : Int) ≠ 12 by decide) (exp_set (n := n) (by omega) (by omega)))
      clear o7 NEW2
      go_wp2_with fail
      refine DO4.out.mono ?_
      rintro e w8 ⟨rfl, o8⟩
      have DO5 := Lib.hid (own_do o8 (by omega) ⟨9, ⟨#[107]⟩, ⟨#[]⟩, more, 0⟩ (10 + n) (show (⟨#[107]⟩ : ByteArray).size ≤ 1000000000 by decide) (show (⟨#[]⟩ : ByteArray).size ≤ 1000000000 by decide) (show (9 : Int) ≠ 11 by decide) (show (9 : Int) ≠ 12 by decide) (exp_touch (n := n) (more := more) (by omega) (by omega) (by omega) (by omega)))
      clear o8 DO4
      have hw2 := HW2.out
      go_wp2_with fail
      refine DO5.out.mono ?_
      rintro e w9 ⟨rfl, o9⟩
      have DO6 := Lib.hid (own_do o9 (by omega) ⟨1, ⟨#[107]⟩, ⟨#[]⟩, 0, 0⟩ (10 + n + ask) (show (⟨#[107]⟩ : ByteArray).size ≤ 1000000000 by decide) (show (⟨#[]⟩ : ByteArray).size ≤ 1000000000 by decide) (show (1 : Int) ≠ 11 by decide) (show (1 : Int) ≠ 12 by decide) (exp_get (u := 10 + n + more) (now := 10 + n + ask) (by omega) (by omega) (by omega) (by omega)))
      clear o9 DO5
      have hw3 := HW3.out
      go_wp2_with fail
      refine DO6.out.mono ?_
      rintro e w10 ⟨rfl, o10⟩
      have KE := Lib.hid (o10.alloc (rpO ⟨0, vB, 0, 1, []⟩ (.slice none 0 0))).keep
      clear o10 DO6
      go_wp2_with fail
      go_ret
      exact ⟨by first | rfl | (simp; done) | (simp; omega), KE.out⟩
    · have DO3 := Lib.hid (own_do O4.out (by omega) ⟨1, ⟨#[107]⟩, ⟨#[]⟩, 0, 0⟩ (10 + ask) (show (⟨#[107]⟩ : ByteArray).size ≤ 1000000000 by decide) (show (⟨#[]⟩ : ByteArray).size ≤ 1000000000 by decide) (show (1 : Int) ≠ 11 by decide) (show (1 : Int) ≠ 12 by decide) (exp_over (u := 10 + n) (now := 10 + ask) (by omega) (by omega) (by omega) (by omega)))
      have hw1 := HW1.out
      go_wp2_with fail
      clear hw1
      refine DO3.out.mono ?_
      rintro e w5 ⟨rfl, o5⟩
      obtain ⟨f0, f1, f2, f3, f4, f5⟩ := rp_facts (o5.2.box (b1, rpO ⟨0, ⟨#[]⟩, n, 0, []⟩ (.slice none 0 0)) (.head _)).1
      simp only at f0 f1 f2 f3 f4
      have O5 := Lib.hid (o5.alloc (rpO (Rp.err 9) (.slice none 0 0)))
      have IT := Lib.hid (own_items O5.out)
      clear o5 DO3
      rw [HB1.out]
      go_wp2_with fail
      refine IT.out.mono ?_
      rintro e w6 ⟨v, B6, rfl, o6, hB6, -, ao, ca, rfl⟩
      have NEW2 := Lib.hid (own_newc o6.keep HL.out 1000 (by decide) (by decide))
      clear o6 hB6 IT
      go_wp2_with fail
      refine NEW2.out.mono ?_
      rintro e w7 ⟨d, rfl, o7⟩
      have DO4 := Lib.hid (own_do o7 (by omega) ⟨2, ⟨#[107]⟩, ⟨#[118]⟩, n, 0⟩ (10) (show (⟨#[107]⟩ : ByteArray).size ≤ 1000000000 by decide) (show (⟨#[118]⟩ : ByteArray).size ≤ 1000000000 by decide) (show (2 : Int) ≠ 11 by decide) (show (2 : Int) ≠ 12 by decide) (exp_set (n := n) (by omega) (by omega)))
      clear o7 NEW2
      go_wp2_with fail
      refine DO4.out.mono ?_
      rintro e w8 ⟨rfl, o8⟩
      have DO5 := Lib.hid (own_do o8 (by omega) ⟨9, ⟨#[107]⟩, ⟨#[]⟩, more, 0⟩ (10 + n) (show (⟨#[107]⟩ : ByteArray).size ≤ 1000000000 by decide) (show (⟨#[]⟩ : ByteArray).size ≤ 1000000000 by decide) (show (9 : Int) ≠ 11 by decide) (show (9 : Int) ≠ 12 by decide) (exp_touch (n := n) (more := more) (by omega) (by omega) (by omega) (by omega)))
      clear o8 DO4
      have hw2 := HW2.out
      go_wp2_with fail
      refine DO5.out.mono ?_
      rintro e w9 ⟨rfl, o9⟩
      have DO6 := Lib.hid (own_do o9 (by omega) ⟨1, ⟨#[107]⟩, ⟨#[]⟩, 0, 0⟩ (10 + n + ask) (show (⟨#[107]⟩ : ByteArray).size ≤ 1000000000 by decide) (show (⟨#[]⟩ : ByteArray).size ≤ 1000000000 by decide) (show (1 : Int) ≠ 11 by decide) (show (1 : Int) ≠ 12 by decide) (exp_over (u := 10 + n + more) (now := 10 + n + ask) (by omega) (by omega) (by omega) (by omega)))
      clear o9 DO5
      have hw3 := HW3.out
      go_wp2_with fail
      refine DO6.out.mono ?_
      rintro e w10 ⟨rfl, o10⟩
      have KE := Lib.hid (o10.alloc (rpO (Rp.err 9) (.slice none 0 0))).keep
      clear o10 DO6
      go_wp2_with fail
      go_ret
      exact ⟨by first | rfl | (simp; done) | (simp; omega), KE.out⟩
end Go.Proofs.YtehpafebpgndeaaGreatDoor
