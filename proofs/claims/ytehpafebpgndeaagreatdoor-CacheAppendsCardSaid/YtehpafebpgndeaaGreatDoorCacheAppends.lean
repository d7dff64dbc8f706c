/-
  CacheAppends: what is put behind a value is there: the walk.
-/
import Derived.Test.YtehpafebpgndeaaGreatDoorCacheV
namespace Go.Proofs.YtehpafebpgndeaaGreatDoor
set_option linter.unusedVariables false
set_option linter.unusedSimpArgs false
set_option linter.unnecessarySimpa false
open Go.RowKit
set_option maxRecDepth 100000

theorem rd_str' {w : World} {l : List ByteArray} {ao : Option Addr} {m c n : Nat} (h : Rd w 1 n (.slice ao m c) (l.map Value.string)) (i : Nat) (hi : i < l.length) : ∃ g off, ao = some ⟨g, off, none⟩ ∧ w.cell? ⟨g, off + i, none⟩ = some (.string l[i]) := by
  obtain ⟨_, _, hc⟩ := h.at
  exact hc i _ (by simp [hi])
set_option maxHeartbeats 8000000 in
theorem cacheAppends_walk (a : ByteArray) (l : List ByteArray) (ao : Option Addr) (ca : Nat) (w : World) (hL : Laid w) (hx : Rd w 1 l.length (.slice ao l.length ca) (l.map Value.string)) :
    Calls Tryz.prog 9 #[.string a, .slice ao l.length ca] w fun e w' => e = .returned (.bool true) ∧ Kept (fun _ => False) w w' := by
  have AL := Lib.hid (alive_true w hL)
  have HL := Lib.hid hL
  clear hL
  by_cases g1 : 500 < (a.size : Int)
  · go_enter Tryz.func9, Tryz.ntmps9
    go_wp2_with fail
    refine AL.out.mono ?_
    rintro e w1 ⟨rfl, hk⟩
    have HK := Lib.hid hk
    clear hk
    go_wp2_with fail
    go_ret
    exact ⟨rfl, HK.out⟩
  by_cases g2 : 30 < l.length
  · go_enter Tryz.func9, Tryz.ntmps9
    go_wp2_with fail
    refine AL.out.mono ?_
    rintro e w1 ⟨rfl, hk⟩
    have HK := Lib.hid hk
    clear hk
    go_wp2_with fail
    go_ret
    exact ⟨rfl, HK.out⟩
  have HX := Lib.hid hx
  clear hx
  obtain ⟨n, hn⟩ : ∃ n, n = l.length := ⟨_, rfl⟩
  rw [← hn] at g2 HX ⊢
  have HN := Lib.hid hn
  clear hn
  go_enter Tryz.func9, Tryz.ntmps9
  go_wp2_with fail
  refine AL.out.mono ?_
  rintro e w1 ⟨rfl, hk⟩
  have NEW := Lib.hid (own_newc hk HL.out 10000 (by decide) (by decide))
  clear hk
  go_wp2_with fail
  refine NEW.out.mono ?_
  rintro e w2 ⟨c, rfl, o2⟩
  have DO1 := Lib.hid (own_do o2 (by decide) ⟨2, ⟨#[107]⟩, a, 7, 0⟩ (1) (show (⟨#[107]⟩ : ByteArray).size ≤ 1000000000 by decide) (show a.size ≤ 1000000000 by omega) (show (2 : Int) ≠ 11 by decide) (show (2 : Int) ≠ 12 by decide) (app_set (a := a) (by omega)))
  clear o2 NEW
  go_wp2_with fail
  refine DO1.out.mono ?_
  rintro e w3 ⟨rfl, o3⟩
  have O3 := Lib.hid o3
  clear o3 DO1
  go_wp2_with fail
  go_loopg [0, 31] n (fun gk av k wr => ∃ (i : Nat) (a : ByteArray) (ver : Int) (B : List (Nat × Obj)), i + gk = n ∧ k = .int .i64 (i : Int) ∧ av = .string a ∧ a.size ≤ 500 ∧ OwnC w wr c (appS a ver) (1 + 3 * (i : Int)) B)
  case atStart => exact ⟨0, a, 1, [], by omega, rfl, rfl, by omega, O3.out⟩
  case round =>
    obtain ⟨i, a, ver, B, hi, rfl, rfl, ha, hj⟩ := hrel
    by_cases hlt : i < n
    · have hil : i < l.length := by rw [← HN.out]; exact hlt
      obtain ⟨g, off, rfl, x0⟩ := rd_str' (HX.out.kept hj.keep (fun _ _ h => h)) i hil
      have O4 := Lib.hid hj
      clear hj O3
      generalize (l[i]'hil) = b at *
      by_cases b0 : 500 < (b.size : Int)
      · go_wp2_with fail
        go_ret
        exact ⟨rfl, O4.out.keep⟩
      by_cases hs : 500 < (a.size : Int) + (b.size : Int)
      · have DO := Lib.hid (own_do O4.out (by omega) ⟨8, ⟨#[107]⟩, b, 0, 0⟩ (2) (show (⟨#[107]⟩ : ByteArray).size ≤ 1000000000 by decide) (show b.size ≤ 1000000000 by omega) (show (8 : Int) ≠ 11 by decide) (show (8 : Int) ≠ 12 by decide) (app_big (a := a) (b := b) (ver := ver) (by omega) (by omega)))
        go_wp2_with fail
        refine DO.out.mono ?_
        rintro e w6 ⟨rfl, o6⟩
        have O5 := Lib.hid (o6.alloc (rpO (Rp.err 13) (.slice none 0 0)))
        clear o6 DO
        have hte : (a).toList == (a).toList := beq_self_eq_true _
        have DO2 := Lib.hid (own_do O5.out (by omega) ⟨1, ⟨#[107]⟩, ⟨#[]⟩, 0, 0⟩ (2) (show (⟨#[107]⟩ : ByteArray).size ≤ 1000000000 by decide) (show (⟨#[]⟩ : ByteArray).size ≤ 1000000000 by decide) (show (1 : Int) ≠ 11 by decide) (show (1 : Int) ≠ 12 by decide) (app_get (a) (ver)))
        have TTL := Lib.hid (app_ttl (a) (ver))
        go_wp2_with fail
        refine DO2.out.mono ?_
        rintro e w7 ⟨rfl, o7⟩
        have DO3 := Lib.hid (own_do o7 (by omega) ⟨10, ⟨#[107]⟩, ⟨#[]⟩, 0, 0⟩ (2) (show (⟨#[107]⟩ : ByteArray).size ≤ 1000000000 by decide) (show (⟨#[]⟩ : ByteArray).size ≤ 1000000000 by decide) (show (10 : Int) ≠ 11 by decide) (show (10 : Int) ≠ 12 by decide) TTL.out)
        clear o7 DO2
        go_wp2_with fail
        refine DO3.out.mono ?_
        rintro e w8 ⟨rfl, o8⟩
        have O8 := Lib.hid (o8.le (m' := 1 + 3 * ((i + 1 : Nat) : Int)) (by omega))
        clear o8 DO3
        go_wp2_with fail
        go_roundg (gk - 1)
        case measure => omega
        case rel => exact ⟨i + 1, a, ver, _, by omega, by go_num, rfl, by first | omega | (rw [ByteArray.size_append]; omega), O8.out⟩
      · have DO := Lib.hid (own_do O4.out (by omega) ⟨8, ⟨#[107]⟩, b, 0, 0⟩ (2) (show (⟨#[107]⟩ : ByteArray).size ≤ 1000000000 by decide) (show b.size ≤ 1000000000 by omega) (show (8 : Int) ≠ 11 by decide) (show (8 : Int) ≠ 12 by decide) (app_more (a := a) (b := b) (ver := ver) (by omega) (by omega)))
        have hszab : (a ++ b).size = a.size + b.size := ByteArray.size_append
        go_wp2_with fail
        refine DO.out.mono ?_
        rintro e w6 ⟨rfl, o6⟩
        have O5 := Lib.hid (o6.alloc (rpO ⟨0, ⟨#[]⟩, 0, ver + 1, []⟩ (.slice none 0 0)))
        clear o6 DO
        have hte : (a ++ b).toList == (a ++ b).toList := beq_self_eq_true _
        have DO2 := Lib.hid (own_do O5.out (by omega) ⟨1, ⟨#[107]⟩, ⟨#[]⟩, 0, 0⟩ (2) (show (⟨#[107]⟩ : ByteArray).size ≤ 1000000000 by decide) (show (⟨#[]⟩ : ByteArray).size ≤ 1000000000 by decide) (show (1 : Int) ≠ 11 by decide) (show (1 : Int) ≠ 12 by decide) (app_get (a ++ b) (ver + 1)))
        have TTL := Lib.hid (app_ttl (a ++ b) (ver + 1))
        go_wp2_with fail
        refine DO2.out.mono ?_
        rintro e w7 ⟨rfl, o7⟩
        have DO3 := Lib.hid (own_do o7 (by omega) ⟨10, ⟨#[107]⟩, ⟨#[]⟩, 0, 0⟩ (2) (show (⟨#[107]⟩ : ByteArray).size ≤ 1000000000 by decide) (show (⟨#[]⟩ : ByteArray).size ≤ 1000000000 by decide) (show (10 : Int) ≠ 11 by decide) (show (10 : Int) ≠ 12 by decide) TTL.out)
        clear o7 DO2
        go_wp2_with fail
        refine DO3.out.mono ?_
        rintro e w8 ⟨rfl, o8⟩
        have O8 := Lib.hid (o8.le (m' := 1 + 3 * ((i + 1 : Nat) : Int)) (by omega))
        clear o8 DO3
        go_wp2_with fail
        go_roundg (gk - 1)
        case measure => omega
        case rel => exact ⟨i + 1, a ++ b, ver + 1, _, by omega, by go_num, rfl, by first | omega | (rw [ByteArray.size_append]; omega), O8.out⟩
    · go_wp2_with fail
      go_ret
      exact ⟨rfl, hj.keep⟩
end Go.Proofs.YtehpafebpgndeaaGreatDoor
