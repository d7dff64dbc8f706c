/-
  CacheVersions: each write gives a version greater than all ahead: the walk.
-/
import Derived.Test.YtehpafebpgndeaaGreatDoorCacheW
namespace Go.Proofs.YtehpafebpgndeaaGreatDoor
set_option linter.unusedVariables false
set_option linter.unusedSimpArgs false
set_option linter.unnecessarySimpa false
open Go.RowKit
set_option maxRecDepth 100000

set_option maxHeartbeats 8000000 in
theorem cacheVersions_walk (l : List Cm) (ao : Option Addr) (ca : Nat) (w : World) (hL : Laid w) (hx : Rd w 5 l.length (.slice ao l.length ca) (flatC l)) :
    Calls Tryz.prog 10 #[.slice ao l.length ca] w fun e w' => e = .returned (.bool true) ∧ Kept (fun _ => False) w w' := by
  have AL := Lib.hid (alive_true w hL)
  have HL := Lib.hid hL
  clear hL
  by_cases g1 : 60 < l.length
  · go_enter Tryz.func10, Tryz.ntmps10
    go_wp2_with fail
    refine AL.out.mono ?_
    rintro e w1 ⟨rfl, hk⟩
    have HK := Lib.hid hk
    clear hk
    go_wp2_with fail
    go_ret
    exact ⟨rfl, HK.out⟩
  have HX := Lib.hid hx
  clear hx
  obtain ⟨n, hn⟩ : ∃ n, n = l.length := ⟨_, rfl⟩
  rw [← hn] at g1 HX ⊢
  have HN := Lib.hid hn
  clear hn
  go_enter Tryz.func10, Tryz.ntmps10
  go_wp2_with fail
  refine AL.out.mono ?_
  rintro e w1 ⟨rfl, hk⟩
  have NEW := Lib.hid (own_newc hk HL.out 100000 (by decide) (by decide))
  clear hk
  go_wp2_with fail
  refine NEW.out.mono ?_
  rintro e w2 ⟨c, rfl, o2⟩
  have O2 := Lib.hid o2
  clear o2 NEW
  go_wp2_with fail
  go_loopg [4, 23] n (fun gk sv k wr => ∃ (i : Nat) (s : CSt) (B : List (Nat × Obj)), i + gk = n ∧ k = .int .i64 (i : Int) ∧ sv = .int .i64 s.ver ∧ VerOk s ∧ OwnC w wr c s i B)
  case atStart => exact ⟨0, newC 100000, [], by omega, rfl, rfl, newC_ver _, O2.out⟩
  case round =>
    obtain ⟨i, s, B, hi, rfl, rfl, hv, hj⟩ := hrel
    have HVO := Lib.hid hv
    have hs0 := hv.1
    have hs1 := hj.1.v1
    clear hv O2
    by_cases hlt : i < n
    · have hil : i < l.length := by rw [← HN.out]; exact hlt
      have hrd := HX.out.kept hj.keep (fun _ _ h => h)
      rw [HN.out] at hrd
      obtain ⟨g, off, rfl, x0, x1, x2, x3, x4⟩ := rd_cm hrd rfl i hil
      clear hrd
      generalize hxx : (l[i]'hil) = x at *
      clear hxx
      by_cases b0 : 100 < (x.key.size : Int)
      · have KE := Lib.hid hj.keep
        clear hj
        go_wp2_with fail
        go_ret
        exact ⟨rfl, KE.out.alloc _⟩
      by_cases b1 : 600 < (x.val.size : Int)
      · have KE := Lib.hid hj.keep
        clear hj
        go_wp2_with fail
        go_ret
        exact ⟨rfl, KE.out.alloc _⟩
      obtain ⟨r, s', hr⟩ : ∃ r s', doC s x 5 = (r, s') := ⟨_, _, rfl⟩
      have TD := Lib.hid (show Told s x r s' by have h := told_do x 5 HVO.out hj.1.nd; rw [hr] at h; exact h)
      have OK := Lib.hid (TD.out.ok HVO.out)
      have O3 := Lib.hid (hj.alloc (.cells #[.int .i64 x.op, .string x.key, .string x.val, .int .i64 x.num, .int .i64 x.ver] 32))
      have DO := Lib.hid (own_doA O3.out (by omega) x 5 (by omega) (by omega) hr)
      have HW1 := Lib.hid (show wrap64 (s.ver + 1) = s.ver + 1 by unfold wrap64; omega)
      obtain ⟨bx, hbx⟩ : ∃ b, wr.heap.size = b := ⟨_, rfl⟩
      have HBX := Lib.hid hbx
      rw [hbx] at O3
      clear hj hr hbx
      go_wp2_with fail
      refine DO.out.mono ?_
      rintro e w3 ⟨kv, B3, rfl, o3, hB3, -, ao3, ca3, rfl⟩
      obtain ⟨re, rv, rn, rve, rk⟩ := r
      obtain ⟨m0, m1, m2, m3, m4, m5⟩ := cm_facts (o3.2.box _ (hB3 _ (.head _))).1
      rw [HBX.out] at m0 m1 m2 m3 m4 m5 ⊢
      have O4 := Lib.hid (o3.alloc (rpO ⟨re, rv, rn, rve, rk⟩ (.slice ao3 rk.length ca3)))
      clear o3 hB3 DO O3 x0 x1 x2 x3 x4
      obtain ⟨op, key, val, num, ver⟩ := x
      simp only at m0 m1 m2 m3 m4 b0 b1 ⊢
      have hw1 := HW1.out
      clear m1 m2 m3 m4
      by_cases c2 : op = 2
      · subst c2
        have T1 := Lib.hid (TD.out.w1 (by unfold isW; simp))
        have T2 := Lib.hid (TD.out.w2 (by unfold isW; simp))
        by_cases he : re = 0
        · subst he
          obtain ⟨hrv, hsv⟩ := T1.out rfl
          simp only at hrv
          subst hrv
          have HV : Hid (s'.ver = s.ver + 1) := Lib.hid hsv
          clear hsv
          go_wp2_with fail
          go_roundg (gk - 1)
          case measure => omega
          case rel => exact ⟨i + 1, s', _, by omega, by go_num, by rw [HV.out], OK.out, O4.out.le (by omega)⟩
        · obtain ⟨hrv, hsv⟩ := T2.out he
          simp only at hrv
          subst hrv
          have heb : (re == 0) = false := by simpa using he
          have HV : Hid (s'.ver = s.ver) := Lib.hid hsv
          clear hsv
          go_wp2_with fail
          go_roundg (gk - 1)
          case measure => omega
          case rel => exact ⟨i + 1, s', _, by omega, by go_num, by rw [HV.out], OK.out, O4.out.le (by omega)⟩
      have d2 : (op == 2) = false := by simpa using c2
      by_cases c3 : op = 3
      · subst c3
        have T1 := Lib.hid (TD.out.w1 (by unfold isW; simp))
        have T2 := Lib.hid (TD.out.w2 (by unfold isW; simp))
        by_cases he : re = 0
        · subst he
          obtain ⟨hrv, hsv⟩ := T1.out rfl
          simp only at hrv
          subst hrv
          have HV : Hid (s'.ver = s.ver + 1) := Lib.hid hsv
          clear hsv
          go_wp2_with fail
          go_roundg (gk - 1)
          case measure => omega
          case rel => exact ⟨i + 1, s', _, by omega, by go_num, by rw [HV.out], OK.out, O4.out.le (by omega)⟩
        · obtain ⟨hrv, hsv⟩ := T2.out he
          simp only at hrv
          subst hrv
          have heb : (re == 0) = false := by simpa using he
          have HV : Hid (s'.ver = s.ver) := Lib.hid hsv
          clear hsv
          go_wp2_with fail
          go_roundg (gk - 1)
          case measure => omega
          case rel => exact ⟨i + 1, s', _, by omega, by go_num, by rw [HV.out], OK.out, O4.out.le (by omega)⟩
      have d3 : (op == 3) = false := by simpa using c3
      by_cases c4 : op = 4
      · subst c4
        have T1 := Lib.hid (TD.out.w1 (by unfold isW; simp))
        have T2 := Lib.hid (TD.out.w2 (by unfold isW; simp))
        by_cases he : re = 0
        · subst he
          obtain ⟨hrv, hsv⟩ := T1.out rfl
          simp only at hrv
          subst hrv
          have HV : Hid (s'.ver = s.ver + 1) := Lib.hid hsv
          clear hsv
          go_wp2_with fail
          go_roundg (gk - 1)
          case measure => omega
          case rel => exact ⟨i + 1, s', _, by omega, by go_num, by rw [HV.out], OK.out, O4.out.le (by omega)⟩
        · obtain ⟨hrv, hsv⟩ := T2.out he
          simp only at hrv
          subst hrv
          have heb : (re == 0) = false := by simpa using he
          have HV : Hid (s'.ver = s.ver) := Lib.hid hsv
          clear hsv
          go_wp2_with fail
          go_roundg (gk - 1)
          case measure => omega
          case rel => exact ⟨i + 1, s', _, by omega, by go_num, by rw [HV.out], OK.out, O4.out.le (by omega)⟩
      have d4 : (op == 4) = false := by simpa using c4
      by_cases c6 : op = 6
      · subst c6
        have T1 := Lib.hid (TD.out.w1 (by unfold isW; simp))
        have T2 := Lib.hid (TD.out.w2 (by unfold isW; simp))
        by_cases he : re = 0
        · subst he
          obtain ⟨hrv, hsv⟩ := T1.out rfl
          simp only at hrv
          subst hrv
          have HV : Hid (s'.ver = s.ver + 1) := Lib.hid hsv
          clear hsv
          go_wp2_with fail
          go_roundg (gk - 1)
          case measure => omega
          case rel => exact ⟨i + 1, s', _, by omega, by go_num, by rw [HV.out], OK.out, O4.out.le (by omega)⟩
        · obtain ⟨hrv, hsv⟩ := T2.out he
          simp only at hrv
          subst hrv
          have heb : (re == 0) = false := by simpa using he
          have HV : Hid (s'.ver = s.ver) := Lib.hid hsv
          clear hsv
          go_wp2_with fail
          go_roundg (gk - 1)
          case measure => omega
          case rel => exact ⟨i + 1, s', _, by omega, by go_num, by rw [HV.out], OK.out, O4.out.le (by omega)⟩
      have d6 : (op == 6) = false := by simpa using c6
      by_cases c7 : op = 7
      · subst c7
        have T1 := Lib.hid (TD.out.w1 (by unfold isW; simp))
        have T2 := Lib.hid (TD.out.w2 (by unfold isW; simp))
        by_cases he : re = 0
        · subst he
          obtain ⟨hrv, hsv⟩ := T1.out rfl
          simp only at hrv
          subst hrv
          have HV : Hid (s'.ver = s.ver + 1) := Lib.hid hsv
          clear hsv
          go_wp2_with fail
          go_roundg (gk - 1)
          case measure => omega
          case rel => exact ⟨i + 1, s', _, by omega, by go_num, by rw [HV.out], OK.out, O4.out.le (by omega)⟩
        · obtain ⟨hrv, hsv⟩ := T2.out he
          simp only at hrv
          subst hrv
          have heb : (re == 0) = false := by simpa using he
          have HV : Hid (s'.ver = s.ver) := Lib.hid hsv
          clear hsv
          go_wp2_with fail
          go_roundg (gk - 1)
          case measure => omega
          case rel => exact ⟨i + 1, s', _, by omega, by go_num, by rw [HV.out], OK.out, O4.out.le (by omega)⟩
      have d7 : (op == 7) = false := by simpa using c7
      by_cases c8 : op = 8
      · subst c8
        have T1 := Lib.hid (TD.out.w1 (by unfold isW; simp))
        have T2 := Lib.hid (TD.out.w2 (by unfold isW; simp))
        by_cases he : re = 0
        · subst he
          obtain ⟨hrv, hsv⟩ := T1.out rfl
          simp only at hrv
          subst hrv
          have HV : Hid (s'.ver = s.ver + 1) := Lib.hid hsv
          clear hsv
          go_wp2_with fail
          go_roundg (gk - 1)
          case measure => omega
          case rel => exact ⟨i + 1, s', _, by omega, by go_num, by rw [HV.out], OK.out, O4.out.le (by omega)⟩
        · obtain ⟨hrv, hsv⟩ := T2.out he
          simp only at hrv
          subst hrv
          have heb : (re == 0) = false := by simpa using he
          have HV : Hid (s'.ver = s.ver) := Lib.hid hsv
          clear hsv
          go_wp2_with fail
          go_roundg (gk - 1)
          case measure => omega
          case rel => exact ⟨i + 1, s', _, by omega, by go_num, by rw [HV.out], OK.out, O4.out.le (by omega)⟩
      have d8 : (op == 8) = false := by simpa using c8
      by_cases c1 : op = 1
      · subst c1
        obtain ⟨hg1, hg2⟩ := TD.out.g rfl
        simp only at hg1 hg2
        have HV : Hid (s'.ver = s.ver) := Lib.hid (TD.out.o (by unfold isW; simp))
        have hgn : ¬ s.ver < rve := by omega
        by_cases he : re = 0
        · have hg3 := hg2 he
          have hgm : ¬ rve < 1 := by omega
          subst he
          go_wp2_with fail
          go_roundg (gk - 1)
          case measure => omega
          case rel => exact ⟨i + 1, s', _, by omega, by go_num, by rw [HV.out], OK.out, O4.out.le (by omega)⟩
        · have heb : (re == 0) = false := by simpa using he
          go_wp2_with fail
          go_roundg (gk - 1)
          case measure => omega
          case rel => exact ⟨i + 1, s', _, by omega, by go_num, by rw [HV.out], OK.out, O4.out.le (by omega)⟩
      have d1 : (op == 1) = false := by simpa using c1
      have HV : Hid (s'.ver = s.ver) := Lib.hid (TD.out.o (by unfold isW; simp only; omega))
      go_wp2_with fail
      go_roundg (gk - 1)
      case measure => omega
      case rel => exact ⟨i + 1, s', _, by omega, by go_num, by rw [HV.out], OK.out, O4.out.le (by omega)⟩
    · have IT := Lib.hid (own_items hj)
      have hlen := hj.1.gl
      have hg0 := hj.1.g0
      have HND := Lib.hid hj.1.nd
      clear hj
      go_wp2_with fail
      refine IT.out.mono ?_
      rintro e w4 ⟨v4, B4, rfl, o4, hB4, hh4, ao4, ca4, rfl⟩
      have SL := Lib.hid (o4.held hh4)
      have KE := Lib.hid o4.keep
      have HIL := Lib.hid (itemsL_length s.U)
      clear o4 hB4 hh4 IT
      obtain ⟨N, hN⟩ : ∃ N, N = s.U.length := ⟨_, rfl⟩
      rw [← hN] at SL hlen ⊢
      have HNN := Lib.hid hN
      clear hN
      go_wp2_with fail
      go_loopg [82] N (fun gk k wr => ∃ j : Nat, j + gk = N ∧ k = .int .i64 (j : Int) ∧ Kept (fun _ => False) w4 wr)
      case atStart => exact ⟨0, by omega, rfl, Kept.refl _ _⟩
      case round =>
        obtain ⟨j, hj, rfl, hk⟩ := hrel
        by_cases hlt2 : j < N
        · have hjl : j < (itemsL s.U).length := by rw [HIL.out, ← HNN.out]; exact hlt2
          have hrd : Rd wr 4 (itemsL s.U).length (.slice ao4 N ca4) (flat (itemsL s.U)) := by
            rw [HIL.out, ← HNN.out]
            exact Rd.of_sl (SL.out.kept hk (fun _ _ h => h))
          obtain ⟨g, off, rfl, y0, y1, y2, y3⟩ := rd_it hrd rfl j hjl
          have hy := HVO.out.2 _ ((itemsL_mem HND.out).1 (List.getElem_mem hjl))
          have HK := Lib.hid hk
          clear hrd hk
          generalize (itemsL s.U)[j]'hjl = y at *
          obtain ⟨hy1, hy2⟩ := hy
          have c1 : ¬ y.ver < 1 := by omega
          have c2 : ¬ s.ver < y.ver := by omega
          go_wp2_with fail
          go_roundg (gk - 1)
          case measure => omega
          case rel => exact ⟨j + 1, by omega, by go_num, HK.out.alloc _⟩
        · have HK := Lib.hid hk
          clear hk
          go_wp2_with fail
          go_ret
          exact ⟨rfl, KE.out.trans HK.out (fun _ _ h => h)⟩
end Go.Proofs.YtehpafebpgndeaaGreatDoor
