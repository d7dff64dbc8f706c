/-
  CacheSweeps: what is over goes ahead of the next command: the walk.
-/
import Derived.Test.YtehpafebpgndeaaGreatDoorCachePut
namespace Go.Proofs.YtehpafebpgndeaaGreatDoor
set_option linter.unusedVariables false
set_option linter.unusedSimpArgs false
set_option linter.unnecessarySimpa false
open Go.RowKit
set_option maxRecDepth 100000

theorem rd_int {w : World} {l : List Int} {ao : Option Addr} {m c n : Nat} (h : Rd w 1 n (.slice ao m c) (l.map (Value.int .i64))) (i : Nat) (hi : i < l.length) : ∃ g off, ao = some ⟨g, off, none⟩ ∧ w.cell? ⟨g, off + i, none⟩ = some (.int .i64 l[i]) := by
  obtain ⟨_, _, hc⟩ := h.at
  exact hc i _ (by simp [hi])
theorem ops4_at (w : World) (j : Int) (hj : j = 0 ∨ j = 1 ∨ j = 2 ∨ j = 3) : ∃ op : Int, (op = 1 ∨ op = 13 ∨ op = 11 ∨ op = 10) ∧
    (w.alloc (.cells #[.int .i64 1, .int .i64 13, .int .i64 11, .int .i64 10] 3)).cell? ⟨w.heap.size, j.toNat, none⟩ = some (.int .i64 op) := by
  have h := cells_new w [.int .i64 1, .int .i64 13, .int .i64 11, .int .i64 10] 3 (0, 0)
  rcases hj with rfl | rfl | rfl | rfl
  · exact ⟨1, by simp, by have := h 0 _ rfl; rw [Addr.add_lit] at this; exact this⟩
  · exact ⟨13, by simp, by have := h 1 _ rfl; rw [Addr.add_lit] at this; exact this⟩
  · exact ⟨11, by simp, by have := h 2 _ rfl; rw [Addr.add_lit] at this; exact this⟩
  · exact ⟨10, by simp, by have := h 3 _ rfl; rw [Addr.add_lit] at this; exact this⟩
set_option maxHeartbeats 8000000 in
theorem cacheSweeps_walk (l : List Int) (ao : Option Addr) (ca : Nat) (now op : Int) (w : World) (hL : Laid w) (hx : Rd w 1 l.length (.slice ao l.length ca) (l.map (Value.int .i64))) (hn0 : -9223372036854775808 ≤ now) (hn1 : now ≤ 9223372036854775807) (ho0 : -9223372036854775808 ≤ op) (ho1 : op ≤ 9223372036854775807) :
    Calls Tryz.prog 14 #[.slice ao l.length ca, .int .i64 now, .int .i64 op] w fun e w' => e = .returned (.bool true) ∧ Kept (fun _ => False) w w' := by
  have AL := Lib.hid (alive_true w hL)
  have HL := Lib.hid hL
  clear hL
  by_cases g1 : 30 < l.length
  · go_enter Tryz.func14, Tryz.ntmps14
    go_wp2_with fail
    refine AL.out.mono ?_
    rintro e w1 ⟨rfl, hk⟩
    have HK := Lib.hid hk
    clear hk
    go_wp2_with fail
    go_ret
    exact ⟨rfl, HK.out⟩
  by_cases g2 : now < 0
  · go_enter Tryz.func14, Tryz.ntmps14
    go_wp2_with fail
    refine AL.out.mono ?_
    rintro e w1 ⟨rfl, hk⟩
    have HK := Lib.hid hk
    clear hk
    go_wp2_with fail
    go_ret
    exact ⟨rfl, HK.out⟩
  by_cases g3 : 200 < now
  · go_enter Tryz.func14, Tryz.ntmps14
    go_wp2_with fail
    refine AL.out.mono ?_
    rintro e w1 ⟨rfl, hk⟩
    have HK := Lib.hid hk
    clear hk
    go_wp2_with fail
    go_ret
    exact ⟨rfl, HK.out⟩
  have HX := Lib.hid hx
  clear hx
  obtain ⟨n, hn⟩ : ∃ n, n = l.length := ⟨_, rfl⟩
  rw [← hn] at g1 HX ⊢
  have HN := Lib.hid hn
  clear hn
  obtain ⟨j, t, ht, hj4, hw0, hj⟩ : ∃ j t, op.tmod 4 = t ∧ (j = 0 ∨ j = 1 ∨ j = 2 ∨ j = 3) ∧ wrap64 (t + 4) = t + 4 ∧ (t + 4).tmod 4 = j := by
    have h1 : op.tmod 4 < 4 := Int.tmod_lt_of_pos op (by decide)
    have h2 : -4 < op.tmod 4 := Int.lt_tmod_of_pos op (by decide)
    have h3 : (op.tmod 4 + 4).tmod 4 = (op.tmod 4 + 4) % 4 := Int.tmod_eq_emod_of_nonneg (by omega)
    exact ⟨(op.tmod 4 + 4).tmod 4, op.tmod 4, rfl, by rw [h3]; omega, by unfold wrap64; omega, rfl⟩
  have hj0 : 0 ≤ j := by omega
  have hj8 : j < 4 := by omega
  go_enter Tryz.func14, Tryz.ntmps14
  go_wp2_with fail
  refine AL.out.mono ?_
  rintro e w1 ⟨rfl, hk⟩
  have NEW := Lib.hid (own_newc hk HL.out 100000 (by decide) (by decide))
  clear hk
  go_wp2_with fail
  refine NEW.out.mono ?_
  rintro e w2 ⟨c, rfl, o2⟩
  have O2 := Lib.hid o2
  clear o2 NEW
  go_wp2_with fail
  go_loopg [8, 33] n (fun gk sv k wr => ∃ i : Nat, i + gk = n ∧ k = .int .i64 (i : Int) ∧ sv = .int .i64 (stayN l now i : Int) ∧ (∀ m, m < i → 0 ≤ l.getD m 0) ∧ OwnC w wr c ⟨100000, rowU (swIt l) i, i, 0⟩ i [])
  case atStart => exact ⟨0, by omega, rfl, rfl, (fun m hm => by omega), O2.out⟩
  case round =>
    obtain ⟨i, hi, rfl, rfl, hall, hj⟩ := hrel
    have HALL := Lib.hid hall
    have HW0 := Lib.hid hw0
    clear hall O2 hw0
    by_cases hlt : i < n
    · have hil : i < l.length := by rw [← HN.out]; exact hlt
      obtain ⟨g, off, rfl, x0⟩ := rd_int (HX.out.kept hj.keep (fun _ _ h => h)) i hil
      have hget : l.getD i 0 = l[i] := by simp [List.getD, hil]
      generalize (l[i]'hil) = x at *
      have HGET := Lib.hid hget
      clear hget
      by_cases b0 : x < 0
      · have KE := Lib.hid hj.keep
        clear hj
        go_wp2_with fail
        go_ret
        exact ⟨rfl, KE.out⟩
      by_cases b1 : 100 < x
      · have KE := Lib.hid hj.keep
        clear hj
        go_wp2_with fail
        go_ret
        exact ⟨rfl, KE.out⟩
      have hst := sw_step (l := l) (n := i) (by omega) (by rw [HGET.out]; omega) (by rw [HGET.out]; omega) HALL.out
      rw [HGET.out] at hst
      have HALL1 := Lib.hid (show ∀ m, m < i + 1 → 0 ≤ l.getD m 0 from fun m hm => by
        by_cases e : m = i
        · rw [e, HGET.out]; omega
        · exact HALL.out m (by omega))
      have DO := Lib.hid (own_do (hj.alloc (.cells #[.int .u8 107, .int .u8 (i : Int)] 5)).drop (by omega) ⟨2, kkB i, ⟨#[118]⟩, x, 0⟩ (0) (show (kkB i).size ≤ 1000000000 by rw [kkB_size]; omega) (show (⟨#[118]⟩ : ByteArray).size ≤ 1000000000 by decide) (show (2 : Int) ≠ 11 by decide) (show (2 : Int) ≠ 12 by decide) hst)
      have hcv := conv_new wr [107, (i : Int)]
      rw [kk_nums i (by omega)] at hcv
      simp only [List.length_cons, List.length_nil, List.map_cons, List.map_nil, Nat.zero_add, Nat.reduceAdd] at hcv
      have h8 : IntKind.u8.wrap (i : Int) = (i : Int) := IntWalk.u8_in _ (by omega)
      clear hj hst
      by_cases hz : x = 0
      · subst hz
        have ST1 := Lib.hid (show ((stayN l now (i + 1) : Nat) : Int) = (stayN l now i : Int) + 1 by rw [stayN_succ, HGET.out, if_pos (by omega)]; simp)
        go_wp2_with fail
        refine DO.out.mono ?_
        rintro e w3 ⟨rfl, o3⟩
        have O3 := Lib.hid o3
        clear o3 DO
        have hsl := stayN_le l now i
        generalize stayN l now i = st at *
        have HW1 := Lib.hid (show wrap64 ((st : Int) + 1) = (st : Int) + 1 by unfold wrap64; omega)
        go_wp2_with fail
        go_roundg (gk - 1)
        case measure => omega
        case rel => exact ⟨i + 1, by omega, by go_num, by rw [ST1.out], HALL1.out, O3.out⟩
      · have hzb : (x == 0) = false := by simpa using hz
        by_cases hge : now ≤ x
        · have ST1 := Lib.hid (show ((stayN l now (i + 1) : Nat) : Int) = (stayN l now i : Int) + 1 by rw [stayN_succ, HGET.out, if_pos (by omega)]; simp)
          go_wp2_with fail
          refine DO.out.mono ?_
          rintro e w3 ⟨rfl, o3⟩
          have O3 := Lib.hid o3
          clear o3 DO
          have hsl := stayN_le l now i
          generalize stayN l now i = st at *
          have HW1 := Lib.hid (show wrap64 ((st : Int) + 1) = (st : Int) + 1 by unfold wrap64; omega)
          go_wp2_with fail
          go_roundg (gk - 1)
          case measure => omega
          case rel => exact ⟨i + 1, by omega, by go_num, by rw [ST1.out], HALL1.out, O3.out⟩
        · have ST1 := Lib.hid (show ((stayN l now (i + 1) : Nat) : Int) = (stayN l now i : Int) + 0 by rw [stayN_succ, HGET.out, if_neg (by omega)]; simp)
          go_wp2_with fail
          refine DO.out.mono ?_
          rintro e w3 ⟨rfl, o3⟩
          have O3 := Lib.hid o3
          clear o3 DO
          have hsl := stayN_le l now i
          generalize stayN l now i = st at *
          have HW1 := Lib.hid (show wrap64 ((st : Int) + 1) = (st : Int) + 1 by unfold wrap64; omega)
          go_wp2_with fail
          go_roundg (gk - 1)
          case measure => omega
          case rel => exact ⟨i + 1, by omega, by go_num, by rw [ST1.out]; simp, HALL1.out, O3.out⟩
    · obtain rfl : n = i := by omega
      have hw0 := HW0.out
      obtain ⟨op, hop, xop⟩ := ops4_at wr j hj4
      have hsl := stayN_le l now n
      by_cases h13 : op = 13
      · subst h13
        obtain ⟨r, hr⟩ := sw_do (l := l) (now := now) (op := 13) (n := n) (by omega) (by omega) (by omega)
        rw [if_pos rfl] at hr
        have O6 := Lib.hid ((hj.alloc (.cells #[.int .i64 1, .int .i64 13, .int .i64 11, .int .i64 10] 3)).alloc (.cells #[.int .i64 13, .string { data := #[] }, .string { data := #[] }, .int .i64 1, .int .i64 0] 32))
        have DO := Lib.hid (own_doA O6.out (by omega) ⟨13, ⟨#[]⟩, ⟨#[]⟩, 1, 0⟩ (now) (show (⟨#[]⟩ : ByteArray).size ≤ 1000000000 by decide) (show (⟨#[]⟩ : ByteArray).size ≤ 1000000000 by decide) hr)
        have US := Lib.hid (sw_used (now := now) HALL.out)
        have LN := Lib.hid (sw_len (now := now) HALL.out)
        clear hj hr
        go_wp2_with fail
        refine DO.out.mono ?_
        rintro e w3 ⟨kv, B3, rfl, o3, hB3, -, ao3, ca3, rfl⟩
        have IT := Lib.hid (own_items o3)
        clear o3 hB3 DO O6
        go_wp2_with fail
        refine IT.out.mono ?_
        rintro e w4 ⟨v4, B4, rfl, o4, hB4, -, ao4, ca4, rfl⟩
        have GO := Lib.hid (own_gone o4)
        have US4 := Lib.hid (own_used o4)
        have KE := Lib.hid o4.keep
        rw [US.out] at US4
        simp only at US4 GO ⊢
        rw [LN.out]
        clear o4 hB4 IT
        generalize stayN l now n = st at *
        have HW1 := Lib.hid (show wrap64 (19 * (st : Int)) = 19 * (st : Int) by unfold wrap64; omega)
        go_wp2_with fail
        refine GO.out.mono ?_
        rintro e w5 ⟨rfl, rfl⟩
        go_wp2_with fail
        refine US4.out.mono ?_
        rintro e w5 ⟨rfl, rfl⟩
        have hw1 := HW1.out
        go_wp2_with fail
        go_ret
        exact ⟨by first | rfl | (simp; done), KE.out⟩
      · have n13 : (op == 13) = false := by simpa using h13
        obtain ⟨r, hr⟩ := sw_do (l := l) (now := now) (op := op) (n := n) (by omega) (by omega) (by omega)
        rw [if_neg (by omega)] at hr
        have O6 := Lib.hid ((hj.alloc (.cells #[.int .i64 1, .int .i64 13, .int .i64 11, .int .i64 10] 3)).alloc (.cells #[.int .i64 op, .string { data := #[110, 111, 110, 101] }, .string { data := #[] }, .int .i64 1, .int .i64 0] 32))
        have DO := Lib.hid (own_doA O6.out (by omega) ⟨op, ⟨#[110, 111, 110, 101]⟩, ⟨#[]⟩, 1, 0⟩ (now) (show (⟨#[110, 111, 110, 101]⟩ : ByteArray).size ≤ 1000000000 by decide) (show (⟨#[]⟩ : ByteArray).size ≤ 1000000000 by decide) hr)
        have US := Lib.hid (sw_used (now := now) HALL.out)
        have LN := Lib.hid (sw_len (now := now) HALL.out)
        clear hj hr
        go_wp2_with fail
        refine DO.out.mono ?_
        rintro e w3 ⟨kv, B3, rfl, o3, hB3, -, ao3, ca3, rfl⟩
        have IT := Lib.hid (own_items o3)
        clear o3 hB3 DO O6
        go_wp2_with fail
        refine IT.out.mono ?_
        rintro e w4 ⟨v4, B4, rfl, o4, hB4, -, ao4, ca4, rfl⟩
        have GO := Lib.hid (own_gone o4)
        have US4 := Lib.hid (own_used o4)
        have KE := Lib.hid o4.keep
        rw [US.out] at US4
        simp only at US4 GO ⊢
        rw [LN.out]
        clear o4 hB4 IT
        generalize stayN l now n = st at *
        have HW1 := Lib.hid (show wrap64 (19 * (st : Int)) = 19 * (st : Int) by unfold wrap64; omega)
        go_wp2_with fail
        refine GO.out.mono ?_
        rintro e w5 ⟨rfl, rfl⟩
        go_wp2_with fail
        refine US4.out.mono ?_
        rintro e w5 ⟨rfl, rfl⟩
        have hw1 := HW1.out
        go_wp2_with fail
        go_ret
        exact ⟨by first | rfl | (simp; done), KE.out⟩
end Go.Proofs.YtehpafebpgndeaaGreatDoor
