/-
  CacheTicks: how long an item is there yet.
-/
import Derived.Test.YtehpafebpgndeaaGreatDoorCacheR
namespace Go.Proofs.YtehpafebpgndeaaGreatDoor
set_option linter.unusedVariables false
set_option linter.unusedSimpArgs false
set_option linter.unnecessarySimpa false
open Go.RowKit
set_option maxRecDepth 100000

/-- Ttl. -/
theorem do_ttl {s : CSt} {x : Cm} {now : Int} (hr : rightC x) (hop : x.op = 10) (h0 : 0 ≤ now) (h1 : now ≤ 1000000000000) {r : Rp} (hrr : (match look (sweepC now s.U) x.key with
    | none => Rp.err 9
    | some was => if was.til = 0 then ⟨0, ⟨#[]⟩, -1, 0, []⟩ else ⟨0, ⟨#[]⟩, was.til - now, 0, []⟩) = r) : doC s x now = (r, { s with U := sweepC now s.U }) := by
  unfold doC
  rw [if_neg (fun h => h.elim (fun h => h hr) (fun h => by omega))]
  unfold didC
  rw [if_neg (by omega), if_neg (by omega), if_neg (by omega), if_neg (by omega)]
  unfold itemC
  rw [if_neg (fun h => by omega)]
  subst hrr
  cases look (sweepC now s.U) x.key with
  | none => rfl
  | some was =>
    simp only
    rw [if_neg (by omega), if_pos hop]

theorem ticks_set (n : Int) (h0 : 0 ≤ n) (h1 : n ≤ 100) : doC (newC 1000) ⟨2, ⟨#[107]⟩, ⟨#[]⟩, n, 0⟩ 7 = (⟨0, ⟨#[]⟩, 0, 1, []⟩, ⟨1000, [⟨⟨#[107]⟩, ⟨#[]⟩, 1, untilC n 7⟩], 1, 0⟩) :=
  do_set ⟨show (1 : Int) ≤ 2 from by decide, show (2 : Int) ≤ 13 from by decide, show keyOk 2 ⟨#[107]⟩ from by decide +kernel, show (0 : Nat) ≤ 500 from by decide, by simp only; omega, by simp only; omega, show (0 : Int) ≤ 0 from by decide, show (0 : Int) ≤ 1000000000000 from by decide⟩ rfl h0 (by decide) (by decide) (show (16 + ((1 : Nat) : Int) + ((0 : Nat) : Int)) + 0 ≤ 1000 by decide)
theorem ttl_right : rightC ⟨10, ⟨#[107]⟩, ⟨#[]⟩, 0, 0⟩ := by decide +kernel
theorem ticks_none (n later : Int) (h0 : 0 < n) (h2 : n < later) (h3 : later ≤ 120) :
    doC ⟨1000, [⟨⟨#[107]⟩, ⟨#[]⟩, 1, untilC n 7⟩], 1, 0⟩ ⟨10, ⟨#[107]⟩, ⟨#[]⟩, 0, 0⟩ (7 + later) = (Rp.err 9, ⟨1000, [], 1, 0⟩) := by
  have hs : sweepC (7 + later) [⟨⟨#[107]⟩, ⟨#[]⟩, 1, untilC n 7⟩] = [] := by
    have hu : untilC n 7 = 7 + n := if_neg (by omega)
    unfold sweepC overB
    rw [hu]
    simp only [List.filter_cons, List.filter_nil]
    rw [decide_eq_true (by omega), decide_eq_true (by omega)]
    rfl
  have h := do_ttl (s := ⟨1000, [⟨⟨#[107]⟩, ⟨#[]⟩, 1, untilC n 7⟩], 1, 0⟩) (now := 7 + later) ttl_right rfl (by omega) (by omega) (r := Rp.err 9) (by simp only; rw [hs]; rfl)
  rw [h]
  simp only
  rw [hs]
theorem ticks_some (n later : Int) (h2 : ¬ (0 < n ∧ n < later)) (h00 : 0 ≤ n) (h3 : later ≤ 120) (h4 : 0 ≤ later) :
    doC ⟨1000, [⟨⟨#[107]⟩, ⟨#[]⟩, 1, untilC n 7⟩], 1, 0⟩ ⟨10, ⟨#[107]⟩, ⟨#[]⟩, 0, 0⟩ (7 + later) = (⟨0, ⟨#[]⟩, if n = 0 then -1 else n - later, 0, []⟩, ⟨1000, [⟨⟨#[107]⟩, ⟨#[]⟩, 1, untilC n 7⟩], 1, 0⟩) := by
  have hs : sweepC (7 + later) [⟨⟨#[107]⟩, ⟨#[]⟩, 1, untilC n 7⟩] = [⟨⟨#[107]⟩, ⟨#[]⟩, 1, untilC n 7⟩] := by
    have hu : ¬ (0 < untilC n 7 ∧ untilC n 7 < 7 + later) := by
      unfold untilC
      split <;> omega
    have ho : overB (7 + later) ⟨⟨#[107]⟩, ⟨#[]⟩, 1, untilC n 7⟩ = false := by
      unfold overB
      rw [← Bool.decide_and]
      exact decide_eq_false hu
    unfold sweepC
    rw [List.filter_cons_of_pos (by rw [ho]; rfl)]
    rfl
  have h := do_ttl (s := ⟨1000, [⟨⟨#[107]⟩, ⟨#[]⟩, 1, untilC n 7⟩], 1, 0⟩) (now := 7 + later) ttl_right rfl (by omega) (by omega) (r := ⟨0, ⟨#[]⟩, if n = 0 then -1 else n - later, 0, []⟩) (by
    simp only
    rw [hs]
    have hl : look [⟨⟨#[107]⟩, ⟨#[]⟩, 1, untilC n 7⟩] ⟨#[107]⟩ = some ⟨⟨#[107]⟩, ⟨#[]⟩, 1, untilC n 7⟩ := rfl
    rw [hl]
    simp only
    unfold untilC
    by_cases hn : n = 0
    · simp [hn]
    · rw [if_neg hn, if_neg (by omega), if_neg hn]
      congr 1
      omega)
  rw [h]
  simp only
  rw [hs]

set_option maxHeartbeats 4000000 in
theorem cacheTicks_walk (n later : Int) (w : World) (hL : Laid w) (hn0 : -9223372036854775808 ≤ n) (hn1 : n ≤ 9223372036854775807) (hl0 : -9223372036854775808 ≤ later) (hl1 : later ≤ 9223372036854775807) :
    Calls Tryz.prog 11 #[.int .i64 n, .int .i64 later] w fun e w' => e = .returned (.bool true) ∧ Kept (fun _ => False) w w' := by
  have AL := Lib.hid (alive_true w hL)
  have HL := Lib.hid hL
  clear hL
  by_cases h1 : n < 0
  · go_enter Tryz.func11, Tryz.ntmps11
    go_wp2_with fail
    refine AL.out.mono ?_
    rintro e w1 ⟨rfl, hk⟩
    have HK := Lib.hid hk
    clear hk
    go_wp2_with fail
    go_ret
    exact ⟨rfl, HK.out⟩
  by_cases h2 : 100 < n
  · go_enter Tryz.func11, Tryz.ntmps11
    go_wp2_with fail
    refine AL.out.mono ?_
    rintro e w1 ⟨rfl, hk⟩
    have HK := Lib.hid hk
    clear hk
    go_wp2_with fail
    go_ret
    exact ⟨rfl, HK.out⟩
  by_cases h3 : later < 0
  · go_enter Tryz.func11, Tryz.ntmps11
    go_wp2_with fail
    refine AL.out.mono ?_
    rintro e w1 ⟨rfl, hk⟩
    have HK := Lib.hid hk
    clear hk
    go_wp2_with fail
    go_ret
    exact ⟨rfl, HK.out⟩
  by_cases h4 : 120 < later
  · go_enter Tryz.func11, Tryz.ntmps11
    go_wp2_with fail
    refine AL.out.mono ?_
    rintro e w1 ⟨rfl, hk⟩
    have HK := Lib.hid hk
    clear hk
    go_wp2_with fail
    go_ret
    exact ⟨rfl, HK.out⟩
  have SET := Lib.hid (ticks_set n (by omega) (by omega))
  have NONE := Lib.hid (fun h0 h2 => ticks_none n later h0 h2 (by omega))
  have SOME := Lib.hid (fun h => ticks_some n later h (by omega) (by omega) (by omega))
  have HW1 := Lib.hid (show wrap64 (7 + later) = 7 + later by unfold wrap64; omega)
  have HW2 := Lib.hid (show wrap64 (n - later) = n - later by unfold wrap64; omega)
  go_enter Tryz.func11, Tryz.ntmps11
  go_wp2_with fail
  refine AL.out.mono ?_
  rintro e w1 ⟨rfl, hk⟩
  have NEW := Lib.hid (own_newc hk HL.out 1000 (by decide) (by decide))
  clear hk AL
  go_wp2_with fail
  refine NEW.out.mono ?_
  rintro e w2 ⟨c, rfl, o2⟩
  have DO1 := Lib.hid (own_do o2 (by decide) ⟨2, ⟨#[107]⟩, ⟨#[]⟩, n, 0⟩ 7 (show (1 : Nat) ≤ 1000000000 from by decide) (show (0 : Nat) ≤ 1000000000 from by decide) (show (2 : Int) ≠ 11 from by decide) (show (2 : Int) ≠ 12 from by decide) SET.out)
  clear o2 NEW
  go_wp2_with fail
  refine DO1.out.mono ?_
  rintro e w3 ⟨rfl, o3⟩
  have O3 := Lib.hid o3
  clear o3 DO1
  have hw1 := HW1.out
  by_cases hno : 0 < n ∧ n < later
  · have DO2 := Lib.hid (own_do O3.out (by decide) ⟨10, ⟨#[107]⟩, ⟨#[]⟩, 0, 0⟩ (7 + later) (by decide) (by decide) (by decide) (by decide) (NONE.out hno.1 hno.2))
    obtain ⟨hp, hq⟩ := hno
    have e0 : (n == 0) = false := by simp; omega
    go_wp2_with fail
    clear hw1
    refine DO2.out.mono ?_
    rintro e w4 ⟨rfl, o4⟩
    have KE := Lib.hid (o4.alloc (rpO (Rp.err 9) (.slice none 0 0))).keep
    clear o4
    go_wp2_with fail
    go_ret
    exact ⟨rfl, KE.out⟩
  · have DO2 := Lib.hid (own_do O3.out (by decide) ⟨10, ⟨#[107]⟩, ⟨#[]⟩, 0, 0⟩ (7 + later) (by decide) (by decide) (by decide) (by decide) (SOME.out hno))
    by_cases hz : n = 0
    · rw [if_pos hz] at DO2
      subst hz
      go_wp2_with fail
      clear hw1
      refine DO2.out.mono ?_
      rintro e w4 ⟨rfl, o4⟩
      have KE := Lib.hid (o4.alloc (rpO ⟨0, ⟨#[]⟩, -1, 0, []⟩ (.slice none 0 0))).keep
      clear o4
      go_wp2_with fail
      go_ret
      exact ⟨rfl, KE.out⟩
    · rw [if_neg hz] at DO2
      have e0 : (n == 0) = false := by simp; omega
      have hle : ¬ n < later := by omega
      go_wp2_with fail
      clear hw1
      refine DO2.out.mono ?_
      rintro e w4 ⟨rfl, o4⟩
      have KE := Lib.hid (o4.alloc (rpO ⟨0, ⟨#[]⟩, n - later, 0, []⟩ (.slice none 0 0))).keep
      clear o4
      have hw2 := HW2.out
      go_wp2_with fail
      go_ret
      exact ⟨by simp, KE.out⟩
end Go.Proofs.YtehpafebpgndeaaGreatDoor
