/-
  CacheCounts: a counter goes up and down as it is told: the walk.
-/
import Derived.Test.YtehpafebpgndeaaGreatDoorCacheW
import Derived.Test.YtehpafebpgndeaaGreatDoorRefNum
namespace Go.Proofs.YtehpafebpgndeaaGreatDoor
set_option linter.unusedVariables false
set_option linter.unusedSimpArgs false
set_option linter.unnecessarySimpa false
open Go.RowKit
set_option maxRecDepth 100000

theorem rd_int {w : World} {l : List Int} {ao : Option Addr} {m c n : Nat} (h : Rd w 1 n (.slice ao m c) (l.map (Value.int .i64))) (i : Nat) (hi : i < l.length) : ∃ g off, ao = some ⟨g, off, none⟩ ∧ w.cell? ⟨g, off + i, none⟩ = some (.int .i64 l[i]) := by
  obtain ⟨_, _, hc⟩ := h.at
  exact hc i _ (by simp [hi])
set_option maxHeartbeats 8000000 in
theorem cacheCounts_walk (v : Int) (l : List Int) (ao : Option Addr) (ca : Nat) (w : World) (hL : Laid w) (hv0 : -9223372036854775808 ≤ v) (hv1 : v ≤ 9223372036854775807) (hx : Rd w 1 l.length (.slice ao l.length ca) (l.map (Value.int .i64))) (hxb : ∀ y ∈ l, -9223372036854775808 ≤ y ∧ y ≤ 9223372036854775807) :
    Calls Tryz.prog 7 #[.int .i64 v, .slice ao l.length ca] w fun e w' => e = .returned (.bool true) ∧ Kept (fun _ => False) w w' := by
  have AL := Lib.hid (alive_true w hL)
  have HL := Lib.hid hL
  clear hL
  by_cases g1 : v < -1000000000000
  · go_enter Tryz.func7, Tryz.ntmps7
    go_wp2_with fail
    refine AL.out.mono ?_
    rintro e w1 ⟨rfl, hk⟩
    have HK := Lib.hid hk
    clear hk
    go_wp2_with fail
    go_ret
    exact ⟨rfl, HK.out⟩
  by_cases g2 : 1000000000000 < v
  · go_enter Tryz.func7, Tryz.ntmps7
    go_wp2_with fail
    refine AL.out.mono ?_
    rintro e w1 ⟨rfl, hk⟩
    have HK := Lib.hid hk
    clear hk
    go_wp2_with fail
    go_ret
    exact ⟨rfl, HK.out⟩
  by_cases g3 : 40 < l.length
  · go_enter Tryz.func7, Tryz.ntmps7
    go_wp2_with fail
    refine AL.out.mono ?_
    rintro e w1 ⟨rfl, hk⟩
    have HK := Lib.hid hk
    clear hk
    go_wp2_with fail
    go_ret
    exact ⟨rfl, HK.out⟩
  obtain ⟨s1, r2, s2, e1, e2, C2⟩ := cnt_start (v := v) (by omega) (by omega)
  have C2 := Lib.hid C2
  have HX := Lib.hid hx
  have HXB := Lib.hid hxb
  have DG0 := Lib.hid (fun W => ref_digits v W (by omega) (by omega))
  have hsz : (itoaB v).size ≤ 500 := itoaB_few (by omega) (by omega)
  clear hx hxb
  obtain ⟨n, hn⟩ : ∃ n, n = l.length := ⟨_, rfl⟩
  rw [← hn] at g3 HX ⊢
  have HN := Lib.hid hn
  clear hn
  go_enter Tryz.func7, Tryz.ntmps7
  go_wp2_with fail
  refine AL.out.mono ?_
  rintro e w1 ⟨rfl, hk⟩
  have NEW := Lib.hid (own_newc hk HL.out 10000 (by decide) (by decide))
  clear hk
  go_wp2_with fail
  refine NEW.out.mono ?_
  rintro e w2 ⟨c, rfl, o2⟩
  have O2 := Lib.hid o2
  clear o2 NEW
  go_wp2_with fail
  refine (DG0.out _).mono ?_
  rintro e w3 ⟨rfl, hk3⟩
  have DO1 := Lib.hid (own_do (O2.out.kept0 hk3) (by decide) ⟨2, ⟨#[110]⟩, itoaB v, 0, 0⟩ (1) (show (⟨#[110]⟩ : ByteArray).size ≤ 1000000000 by decide) (show (itoaB v).size ≤ 1000000000 by omega) (show (2 : Int) ≠ 11 by decide) (show (2 : Int) ≠ 12 by decide) e1)
  clear hk3 DG0
  generalize itoaB v = tv at *
  go_wp2_with fail
  refine DO1.out.mono ?_
  rintro e w4 ⟨rfl, o4⟩
  have DO2 := Lib.hid (own_do o4 (by decide) ⟨2, ⟨#[116]⟩, ⟨#[120, 49]⟩, 0, 0⟩ (1) (show (⟨#[116]⟩ : ByteArray).size ≤ 1000000000 by decide) (show (⟨#[120, 49]⟩ : ByteArray).size ≤ 1000000000 by decide) (show (2 : Int) ≠ 11 by decide) (show (2 : Int) ≠ 12 by decide) e2)
  clear o4 DO1 O2
  go_wp2_with fail
  refine DO2.out.mono ?_
  rintro e w5 ⟨rfl, o5⟩
  have O5 := Lib.hid o5
  clear o5 DO2
  go_wp2_with fail
  go_loopg [0, 6] n (fun gk vv k wr => ∃ (i : Nat) (v : Int) (s : CSt) (B : List (Nat × Obj)), i + gk = n ∧ k = .int .i64 (i : Int) ∧ vv = .int .i64 v ∧ -1000000000000 ≤ v ∧ v ≤ 1000000000000 ∧ CntS v s ∧ OwnC w wr c s (2 + 3 * (i : Int)) B)
  case atStart => exact ⟨0, v, s2, [], by omega, rfl, rfl, by omega, by omega, C2.out, O5.out⟩
  case round =>
    obtain ⟨i, v, s, B, hi, rfl, rfl, hv0, hv1, C0, hj⟩ := hrel
    have C0 := Lib.hid C0
    by_cases hlt : i < n
    · have hil : i < l.length := by rw [← HN.out]; exact hlt
      obtain ⟨g, off, rfl, x0⟩ := rd_int (HX.out.kept hj.keep (fun _ _ h => h)) i hil
      have hxi := HXB.out _ (List.getElem_mem hil)
      have O4 := Lib.hid hj
      clear hj O5 C2
      have XC := Lib.hid (fun (W : World) (hk : Kept (fun _ => False) w W) => (HX.out.kept hk (fun _ _ h => h)))
      generalize hxx : (l[i]'hil) = x at *
      have HXX := Lib.hid hxx
      clear hxx
      by_cases b0 : x < -1000000000000
      · go_wp2_with fail
        go_ret
        exact ⟨rfl, O4.out.keep⟩
      by_cases b1 : 1000000000000 < x
      · go_wp2_with fail
        go_ret
        exact ⟨rfl, O4.out.keep⟩
      have hw1 : wrap64 (v + x) = v + x := by unfold wrap64; omega
      by_cases hs : v + x < -1000000000000 ∨ 1000000000000 < v + x
      · have DO := Lib.hid (own_do O4.out (by omega) ⟨7, ⟨#[110]⟩, ⟨#[]⟩, x, 0⟩ (1) (show (⟨#[110]⟩ : ByteArray).size ≤ 1000000000 by decide) (show (⟨#[]⟩ : ByteArray).size ≤ 1000000000 by decide) (show (7 : Int) ≠ 11 by decide) (show (7 : Int) ≠ 12 by decide) (C0.out.incr_big (by omega) (by omega) (by omega) (by omega) hs))
        go_wp2_with fail
        refine DO.out.mono ?_
        rintro e w6 ⟨rfl, o6⟩
        obtain ⟨_, _, hxe, xx0⟩ := rd_int (XC.out _ o6.keep) i hil
        injection hxe with hxe
        injection hxe with e1 e2
        subst e1 e2
        rw [HXX.out] at xx0
        have xlt := World.block_lt_of_cell? _ _ xx0
        simp only at xlt
        obtain ⟨rb, hrb⟩ : ∃ b, w6.heap.size = b := ⟨_, rfl⟩
        have O5 := Lib.hid (o6.alloc (rpO (Rp.err 12) (.slice none 0 0)))
        obtain ⟨f0, f1, f2, f3, f4, f5⟩ := rp_facts (O5.out.2.box (_, rpO (Rp.err 12) (.slice none 0 0)) (.head _)).1
        simp only [rp_errno, rp_num] at f0 f2
        have C5 := C0
        clear o6 DO hrb
        rcases hs with hs | hs
        · have GET := Lib.hid (C5.out.get)
          obtain ⟨⟨ge, gv, gn, gve, gk6⟩, s6, hr6, hv6, C6'⟩ := GET.out
          simp only at hv6
          subst hv6
          have C6 := Lib.hid C6'
          have DO3 := Lib.hid (own_do O5.out (by omega) ⟨1, ⟨#[110]⟩, ⟨#[]⟩, 0, 0⟩ (1) (show (⟨#[110]⟩ : ByteArray).size ≤ 1000000000 by decide) (show (⟨#[]⟩ : ByteArray).size ≤ 1000000000 by decide) (show (1 : Int) ≠ 11 by decide) (show (1 : Int) ≠ 12 by decide) hr6)
          clear GET C6' hr6
          go_wp2_with fail
          refine DO3.out.mono ?_
          rintro e w7 ⟨rfl, o7⟩
          obtain ⟨rgb, hrgb⟩ : ∃ b, w7.heap.size = b := ⟨_, rfl⟩
          have O7 := Lib.hid (o7.alloc (rpO ⟨ge, itoaB (v), gn, gve, gk6⟩ (.slice none 0 0)))
          clear o7 DO3 f0 f1 f2 f3 f4 f5
          have DG := Lib.hid (fun W => ref_digits (v) W (by omega) (by omega))
          have hte : (itoaB (v)).toList == (itoaB (v)).toList := beq_self_eq_true _
          generalize itoaB (v) = t at *
          clear hrgb
          go_wp2_with fail
          go_cut [105] (fun b wr => b = .bool false ∧ OwnC w wr c s6 (2 + 3 * (i : Int) + 1 + 1 + 1) ((w7.heap.size, rpO ⟨ge, t, gn, gve, gk6⟩ (.slice none 0 0)) :: (w6.heap.size, rpO (Rp.err 12) (.slice none 0 0)) :: B))
          case first =>
            go_region_with (first
              | (go_at_call 29; refine (DG.out _).mono ?_; rintro e w8 ⟨rfl, hk8⟩; have O8 := Lib.hid (O7.out.kept0 (((Kept.refl (fun _ => False) _).drew).trans hk8 (fun _ _ h => h))); obtain ⟨_, _, hxe, xx0⟩ := rd_int (XC.out _ O8.out.keep) i hil; injection hxe with hxe; injection hxe with e1 e2; subst e1 e2; rw [HXX.out] at xx0; obtain ⟨_, q1, _, _, _, q5⟩ := rp_facts (O8.out.2.box (w7.heap.size, rpO ⟨ge, t, gn, gve, gk6⟩ (.slice none 0 0)) (.head _)).1; simp only at q1 q5; have DO4 := Lib.hid (own_do O8.out (by omega) ⟨7, ⟨#[116]⟩, ⟨#[]⟩, x, 0⟩ (1) (show (⟨#[116]⟩ : ByteArray).size ≤ 1000000000 by decide) (show (⟨#[]⟩ : ByteArray).size ≤ 1000000000 by decide) (show (7 : Int) ≠ 11 by decide) (show (7 : Int) ≠ 12 by decide) (C6.out.incrT (by omega) (by omega))); clear hk8)
              | (go_at_call 27; refine DO4.out.mono ?_; rintro e w9 ⟨rfl, o9⟩; have O9 := Lib.hid o9; clear o9))
            trace_state
            all_goals
              go_wp2_with fail
              go_meet
              case rel => exact ⟨rfl, O9.out⟩
          case rest =>
            obtain ⟨rfl, o9⟩ := hcut
            have O9 := Lib.hid o9
            clear o9
            go_wp2_with fail
            go_roundg (gk - 1)
            case measure => omega
            case rel => exact ⟨i + 1, _, s6, _, by omega, by go_num, rfl, by omega, by omega, C6.out, O9.out.le (by omega)⟩
        · have GET := Lib.hid (C5.out.get)
          obtain ⟨⟨ge, gv, gn, gve, gk6⟩, s6, hr6, hv6, C6'⟩ := GET.out
          simp only at hv6
          subst hv6
          have C6 := Lib.hid C6'
          have DO3 := Lib.hid (own_do O5.out (by omega) ⟨1, ⟨#[110]⟩, ⟨#[]⟩, 0, 0⟩ (1) (show (⟨#[110]⟩ : ByteArray).size ≤ 1000000000 by decide) (show (⟨#[]⟩ : ByteArray).size ≤ 1000000000 by decide) (show (1 : Int) ≠ 11 by decide) (show (1 : Int) ≠ 12 by decide) hr6)
          clear GET C6' hr6
          go_wp2_with fail
          refine DO3.out.mono ?_
          rintro e w7 ⟨rfl, o7⟩
          obtain ⟨rgb, hrgb⟩ : ∃ b, w7.heap.size = b := ⟨_, rfl⟩
          have O7 := Lib.hid (o7.alloc (rpO ⟨ge, itoaB (v), gn, gve, gk6⟩ (.slice none 0 0)))
          clear o7 DO3 f0 f1 f2 f3 f4 f5
          have DG := Lib.hid (fun W => ref_digits (v) W (by omega) (by omega))
          have hte : (itoaB (v)).toList == (itoaB (v)).toList := beq_self_eq_true _
          generalize itoaB (v) = t at *
          clear hrgb
          go_wp2_with fail
          go_cut [105] (fun b wr => b = .bool false ∧ OwnC w wr c s6 (2 + 3 * (i : Int) + 1 + 1 + 1) ((w7.heap.size, rpO ⟨ge, t, gn, gve, gk6⟩ (.slice none 0 0)) :: (w6.heap.size, rpO (Rp.err 12) (.slice none 0 0)) :: B))
          case first =>
            go_region_with (first
              | (go_at_call 29; refine (DG.out _).mono ?_; rintro e w8 ⟨rfl, hk8⟩; have O8 := Lib.hid (O7.out.kept0 (((Kept.refl (fun _ => False) _).drew).trans hk8 (fun _ _ h => h))); obtain ⟨_, _, hxe, xx0⟩ := rd_int (XC.out _ O8.out.keep) i hil; injection hxe with hxe; injection hxe with e1 e2; subst e1 e2; rw [HXX.out] at xx0; obtain ⟨_, q1, _, _, _, q5⟩ := rp_facts (O8.out.2.box (w7.heap.size, rpO ⟨ge, t, gn, gve, gk6⟩ (.slice none 0 0)) (.head _)).1; simp only at q1 q5; have DO4 := Lib.hid (own_do O8.out (by omega) ⟨7, ⟨#[116]⟩, ⟨#[]⟩, x, 0⟩ (1) (show (⟨#[116]⟩ : ByteArray).size ≤ 1000000000 by decide) (show (⟨#[]⟩ : ByteArray).size ≤ 1000000000 by decide) (show (7 : Int) ≠ 11 by decide) (show (7 : Int) ≠ 12 by decide) (C6.out.incrT (by omega) (by omega))); clear hk8)
              | (go_at_call 27; refine DO4.out.mono ?_; rintro e w9 ⟨rfl, o9⟩; have O9 := Lib.hid o9; clear o9))
            trace_state
            all_goals
              go_wp2_with fail
              go_meet
              case rel => exact ⟨rfl, O9.out⟩
          case rest =>
            obtain ⟨rfl, o9⟩ := hcut
            have O9 := Lib.hid o9
            clear o9
            go_wp2_with fail
            go_roundg (gk - 1)
            case measure => omega
            case rel => exact ⟨i + 1, _, s6, _, by omega, by go_num, rfl, by omega, by omega, C6.out, O9.out.le (by omega)⟩
      · obtain ⟨⟨re, rv, rn, rve, rk⟩, s5, hr5, he5, hn5, C5'⟩ := C0.out.incr_ok hv0 hv1 (by omega) (by omega) hs
        have C5 := Lib.hid C5'
        simp only at he5 hn5
        subst he5 hn5
        have DO := Lib.hid (own_do O4.out (by omega) ⟨7, ⟨#[110]⟩, ⟨#[]⟩, x, 0⟩ (1) (show (⟨#[110]⟩ : ByteArray).size ≤ 1000000000 by decide) (show (⟨#[]⟩ : ByteArray).size ≤ 1000000000 by decide) (show (7 : Int) ≠ 11 by decide) (show (7 : Int) ≠ 12 by decide) hr5)
        clear C5' hr5
        go_wp2_with fail
        refine DO.out.mono ?_
        rintro e w6 ⟨rfl, o6⟩
        obtain ⟨_, _, hxe, xx0⟩ := rd_int (XC.out _ o6.keep) i hil
        injection hxe with hxe
        injection hxe with e1 e2
        subst e1 e2
        rw [HXX.out] at xx0
        have xlt := World.block_lt_of_cell? _ _ xx0
        simp only at xlt
        obtain ⟨rb, hrb⟩ : ∃ b, w6.heap.size = b := ⟨_, rfl⟩
        have O5 := Lib.hid (o6.alloc (rpO ⟨0, rv, v + x, rve, rk⟩ (.slice none 0 0)))
        obtain ⟨f0, f1, f2, f3, f4, f5⟩ := rp_facts (O5.out.2.box (_, rpO ⟨0, rv, v + x, rve, rk⟩ (.slice none 0 0)) (.head _)).1
        simp only at f0 f2
        clear o6 DO hrb
        have GET := Lib.hid (C5.out.get)
        obtain ⟨⟨ge, gv, gn, gve, gk6⟩, s6, hr6, hv6, C6'⟩ := GET.out
        simp only at hv6
        subst hv6
        have C6 := Lib.hid C6'
        have DO3 := Lib.hid (own_do O5.out (by omega) ⟨1, ⟨#[110]⟩, ⟨#[]⟩, 0, 0⟩ (1) (show (⟨#[110]⟩ : ByteArray).size ≤ 1000000000 by decide) (show (⟨#[]⟩ : ByteArray).size ≤ 1000000000 by decide) (show (1 : Int) ≠ 11 by decide) (show (1 : Int) ≠ 12 by decide) hr6)
        clear GET C6' hr6
        go_wp2_with fail
        refine DO3.out.mono ?_
        rintro e w7 ⟨rfl, o7⟩
        obtain ⟨rgb, hrgb⟩ : ∃ b, w7.heap.size = b := ⟨_, rfl⟩
        have O7 := Lib.hid (o7.alloc (rpO ⟨ge, itoaB (v + x), gn, gve, gk6⟩ (.slice none 0 0)))
        clear o7 DO3 f0 f1 f2 f3 f4 f5
        have DG := Lib.hid (fun W => ref_digits (v + x) W (by omega) (by omega))
        have hte : (itoaB (v + x)).toList == (itoaB (v + x)).toList := beq_self_eq_true _
        generalize itoaB (v + x) = t at *
        clear hrgb
        go_wp2_with fail
        go_cut [105] (fun b wr => b = .bool false ∧ OwnC w wr c s6 (2 + 3 * (i : Int) + 1 + 1 + 1) ((w7.heap.size, rpO ⟨ge, t, gn, gve, gk6⟩ (.slice none 0 0)) :: (w6.heap.size, rpO ⟨0, rv, v + x, rve, rk⟩ (.slice none 0 0)) :: B))
        case first =>
          go_region_with (first
            | (go_at_call 29; refine (DG.out _).mono ?_; rintro e w8 ⟨rfl, hk8⟩; have O8 := Lib.hid (O7.out.kept0 (((Kept.refl (fun _ => False) _).drew).trans hk8 (fun _ _ h => h))); obtain ⟨_, _, hxe, xx0⟩ := rd_int (XC.out _ O8.out.keep) i hil; injection hxe with hxe; injection hxe with e1 e2; subst e1 e2; rw [HXX.out] at xx0; obtain ⟨_, q1, _, _, _, q5⟩ := rp_facts (O8.out.2.box (w7.heap.size, rpO ⟨ge, t, gn, gve, gk6⟩ (.slice none 0 0)) (.head _)).1; simp only at q1 q5; have DO4 := Lib.hid (own_do O8.out (by omega) ⟨7, ⟨#[116]⟩, ⟨#[]⟩, x, 0⟩ (1) (show (⟨#[116]⟩ : ByteArray).size ≤ 1000000000 by decide) (show (⟨#[]⟩ : ByteArray).size ≤ 1000000000 by decide) (show (7 : Int) ≠ 11 by decide) (show (7 : Int) ≠ 12 by decide) (C6.out.incrT (by omega) (by omega))); clear hk8)
            | (go_at_call 27; refine DO4.out.mono ?_; rintro e w9 ⟨rfl, o9⟩; have O9 := Lib.hid o9; clear o9))
          trace_state
          all_goals
            go_wp2_with fail
            go_meet
            case rel => exact ⟨rfl, O9.out⟩
        case rest =>
          obtain ⟨rfl, o9⟩ := hcut
          have O9 := Lib.hid o9
          clear o9
          go_wp2_with fail
          go_roundg (gk - 1)
          case measure => omega
          case rel => exact ⟨i + 1, _, s6, _, by omega, by go_num, rfl, by omega, by omega, C6.out, O9.out.le (by omega)⟩
    · go_wp2_with fail
      go_ret
      exact ⟨rfl, hj.keep⟩
end Go.Proofs.YtehpafebpgndeaaGreatDoor
