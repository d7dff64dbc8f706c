/-
  CacheUses: what was used last goes last: the walk.
-/
import Derived.Test.YtehpafebpgndeaaGreatDoorCachePut
import Derived.Test.YtehpafebpgndeaaGreatDoorSameTexts
namespace Go.Proofs.YtehpafebpgndeaaGreatDoor
set_option linter.unusedVariables false
set_option linter.unusedSimpArgs false
set_option linter.unnecessarySimpa false
open Go.RowKit
set_option maxRecDepth 100000

/-- The keys that CacheUses wants, so far. -/
def useL (i A : Nat) (mv : Bool) : List ByteArray := ((List.range i).filter fun k => decide (k ≠ A) || !mv).map kkB
theorem useL_succ (i A : Nat) (mv : Bool) : useL (i + 1) A mv = useL i A mv ++ if (decide (i ≠ A) || !mv) = true then [kkB i] else [] := by
  unfold useL
  rw [List.range_succ, List.filter_append, List.map_append]
  congr 1
  by_cases h : (decide (i ≠ A) || !mv) = true
  · rw [if_pos h, List.filter_cons_of_pos (by exact h)]; rfl
  · rw [if_neg h, List.filter_cons_of_neg (by exact h)]; rfl
theorem useL_len (i A : Nat) (mv : Bool) (h : i ≤ 20) : (useL i A mv).length ≤ 20 := by
  unfold useL
  rw [List.length_map]
  have := List.length_filter_le (fun k => decide (k ≠ A) || !mv) (List.range i)
  rw [List.length_range] at this
  omega
theorem wantL_use (N A : Nat) (mv : Bool) : wantL N A mv = useL N A mv ++ if mv then [kkB A] else [] := rfl
theorem ops_at (w : World) (o : Obj) (j : Int) (hj : j = 0 ∨ j = 1 ∨ j = 2 ∨ j = 3 ∨ j = 4 ∨ j = 5 ∨ j = 6) : ∃ op : Int, (op = 1 ∨ op = 9 ∨ op = 8 ∨ op = 10 ∨ op = 11 ∨ op = 4 ∨ op = 3) ∧
    ((w.alloc o).alloc (.cells #[.int .i64 1, .int .i64 9, .int .i64 8, .int .i64 10, .int .i64 11, .int .i64 4, .int .i64 3] 3)).cell? ⟨w.heap.size + 1, j.toNat, none⟩ = some (.int .i64 op) := by
  have h := cells_new (w.alloc o) [.int .i64 1, .int .i64 9, .int .i64 8, .int .i64 10, .int .i64 11, .int .i64 4, .int .i64 3] 3 (0, 0)
  rw [show (w.alloc o).heap.size = w.heap.size + 1 by simp] at h
  rcases hj with rfl | rfl | rfl | rfl | rfl | rfl | rfl
  · exact ⟨1, by simp, by have := h 0 _ rfl; rw [Addr.add_lit] at this; exact this⟩
  · exact ⟨9, by simp, by have := h 1 _ rfl; rw [Addr.add_lit] at this; exact this⟩
  · exact ⟨8, by simp, by have := h 2 _ rfl; rw [Addr.add_lit] at this; exact this⟩
  · exact ⟨10, by simp, by have := h 3 _ rfl; rw [Addr.add_lit] at this; exact this⟩
  · exact ⟨11, by simp, by have := h 4 _ rfl; rw [Addr.add_lit] at this; exact this⟩
  · exact ⟨4, by simp, by have := h 5 _ rfl; rw [Addr.add_lit] at this; exact this⟩
  · exact ⟨3, by simp, by have := h 6 _ rfl; rw [Addr.add_lit] at this; exact this⟩
theorem size_two (w : World) (o p : Obj) : ((w.alloc o).alloc p).heap.size = w.heap.size + 1 + 1 := by simp
set_option maxHeartbeats 8000000 in
theorem cacheUses_walk (n at_ how : Int) (w : World) (hL : Laid w) (hn0 : -9223372036854775808 ≤ n) (hn1 : n ≤ 9223372036854775807) (ha0 : -9223372036854775808 ≤ at_) (ha1 : at_ ≤ 9223372036854775807) (hh0 : -9223372036854775808 ≤ how) (hh1 : how ≤ 9223372036854775807) :
    Calls Tryz.prog 16 #[.int .i64 n, .int .i64 at_, .int .i64 how] w fun e w' => e = .returned (.bool true) ∧ Kept (fun _ => False) w w' := by
  have AL := Lib.hid (alive_true w hL)
  have HL := Lib.hid hL
  clear hL
  by_cases g1 : n < 2
  · go_enter Tryz.func16, Tryz.ntmps16
    go_wp2_with fail
    refine AL.out.mono ?_
    rintro e w1 ⟨rfl, hk⟩
    have HK := Lib.hid hk
    clear hk
    go_wp2_with fail
    go_ret
    exact ⟨rfl, HK.out⟩
  by_cases g2 : 20 < n
  · go_enter Tryz.func16, Tryz.ntmps16
    go_wp2_with fail
    refine AL.out.mono ?_
    rintro e w1 ⟨rfl, hk⟩
    have HK := Lib.hid hk
    clear hk
    go_wp2_with fail
    go_ret
    exact ⟨rfl, HK.out⟩
  by_cases g3 : at_ < 0
  · go_enter Tryz.func16, Tryz.ntmps16
    go_wp2_with fail
    refine AL.out.mono ?_
    rintro e w1 ⟨rfl, hk⟩
    have HK := Lib.hid hk
    clear hk
    go_wp2_with fail
    go_ret
    exact ⟨rfl, HK.out⟩
  by_cases g4 : ¬ at_ < n
  · go_enter Tryz.func16, Tryz.ntmps16
    go_wp2_with fail
    refine AL.out.mono ?_
    rintro e w1 ⟨rfl, hk⟩
    have HK := Lib.hid hk
    clear hk
    go_wp2_with fail
    go_ret
    exact ⟨rfl, HK.out⟩
  obtain ⟨i0, hi0, hz0, hz1, hz2⟩ := info_parts str_info
  obtain ⟨N, rfl⟩ : ∃ N : Nat, n = (N : Int) := ⟨n.toNat, by omega⟩
  obtain ⟨A, rfl⟩ : ∃ A : Nat, at_ = (A : Int) := ⟨at_.toNat, by omega⟩
  have h8 : IntKind.u8.wrap (A : Int) = (A : Int) := IntWalk.u8_in _ (by omega)
  have PUT := Lib.hid (fun W hk => putF_any 100000 N 2 w W hk HL.out (by omega) (by omega) (by omega) (by decide) (by decide))
  have hlt7 : how.tmod 7 < 7 := Int.tmod_lt_of_pos how (by decide)
  have hgt7 : -7 < how.tmod 7 := Int.lt_tmod_of_pos how (by decide)
  obtain ⟨t, ht⟩ : ∃ t, how.tmod 7 = t := ⟨_, rfl⟩
  rw [ht] at hlt7 hgt7
  obtain ⟨j, hj⟩ : ∃ j, (t + 7).tmod 7 = j := ⟨_, rfl⟩
  have hj2 : j = (t + 7) % 7 := by rw [← hj]; exact Int.tmod_eq_emod_of_nonneg (by omega)
  have hj7 : j = 0 ∨ j = 1 ∨ j = 2 ∨ j = 3 ∨ j = 4 ∨ j = 5 ∨ j = 6 := by omega
  have hj0 : 0 ≤ j := by omega
  have hj8 : j < 7 := by omega
  have hw1 : wrap64 (t + 7) = t + 7 := by unfold wrap64; omega
  clear hj2
  go_enter Tryz.func16, Tryz.ntmps16
  go_wp2_with fail
  refine AL.out.mono ?_
  rintro e w1 ⟨rfl, hk⟩
  have PUT1 := Lib.hid (PUT.out _ hk)
  clear hk PUT
  go_wp2_with fail
  refine PUT1.out.mono ?_
  rintro e w2 ⟨c, rfl, o2⟩
  have hcv := conv_new w2 [107, (A : Int)]
  rw [kk_nums A (by omega)] at hcv
  simp only [List.length_cons, List.length_nil, List.map_cons, List.map_nil, Nat.zero_add, Nat.reduceAdd] at hcv
  obtain ⟨op, hop, xop⟩ := ops_at w2 (.cells #[.int .u8 107, .int .u8 (A : Int)] 5) j hj7
  have O2 := Lib.hid ((o2.alloc (.cells #[.int .u8 107, .int .u8 (A : Int)] 5)).alloc (.cells #[.int .i64 1, .int .i64 9, .int .i64 8, .int .i64 10, .int .i64 11, .int .i64 4, .int .i64 3] 3))
  clear o2 PUT1 hj7
  by_cases h11 : op = 11
  · subst h11
    have O6 := Lib.hid (O2.out.alloc (.cells #[.int .i64 11, .string (kkB A), .string { data := #[] }, .int .i64 1, .int .i64 0] 32))
    obtain ⟨r, s', hr, hks⟩ := uses_do (n := N) (at_ := A) (op := 11) (by omega) (by omega) (by omega)
    rw [if_pos rfl] at hr
    have HKS := Lib.hid (show keys s'.U = wantL N A false from hks.trans (by rw [show movesB 11 = false by unfold movesB; simp; done]))
    clear hks
    have DO := Lib.hid (own_doA O6.out (by omega) ⟨11, kkB A, ⟨#[]⟩, 1, 0⟩ (1) (show (kkB A).size ≤ 1000000000 by rw [kkB_size]; omega) (show (⟨#[]⟩ : ByteArray).size ≤ 1000000000 by decide) hr)
    go_wp2_with fail
    refine DO.out.mono ?_
    rintro e w3 ⟨kv, B3, rfl, o3, hB3, -, ao3, ca3, rfl⟩
    have bx := (o3.2.box _ (hB3 _ (.head _))).1
    simp only [size_two] at bx
    have x0 := cell_at bx 0
    have x5 := lt_of_block bx
    simp at x0
    have O3 := Lib.hid o3
    clear o3 hB3 bx DO O2 O6
    go_wp2_with fail
    clear x0 x5
    go_loopg [11, 12] N (fun gk v k wr => ∃ i : Nat, i + gk = N ∧ k = .int .i64 (i : Int) ∧ Strs w3 wr v (useL i A false))
    case atStart => exact ⟨0, by omega, rfl, Strs.nil (Kept.refl _ _)⟩
    case round =>
      obtain ⟨i, hi, rfl, hj⟩ := hrel
      by_cases hlt : i < N
      · by_cases hia : i = A
        · subst hia
          have hnx : useL (i + 1) i false = useL i i false ++ [kkB i] := by rw [useL_succ, if_pos (by simp)]
          have HNX := Lib.hid hnx
          clear hnx
          have hcv := conv_new wr [107, (i : Int)]
          rw [kk_nums i (by omega)] at hcv
          simp only [List.length_cons, List.length_nil, List.map_cons, List.map_nil, Nat.zero_add, Nat.reduceAdd] at hcv
          have h8 : IntKind.u8.wrap (i : Int) = (i : Int) := IntWalk.u8_in _ (by omega)
          have hsl := hj.1
          obtain ⟨aov, cav, rfl, _⟩ := (Rd.of_sl hsl).shape
          have APP := Lib.hid (fun (W w5 : World) (g off cap : Nat) (hk : Kept (fun _ => False) wr W) h1 h2 h3 => (hj.kept hk).push (g := g) (off := off) (cap := cap) (k := kkB i) (w2 := w5) h1 h2 h3)
          have hone : ∀ u ∈ [Value.string (kkB i)], u.oneCell' = true := by simp [Value.oneCell']
          have hlw := useL_len i i false (by omega)
          clear hj
          generalize useL i i false = ul at *
          have b1 : ul.length + 1 ≤ maxLen := by unfold maxLen; omega
          have b2 : (ul.length + 1) * 16 ≤ 140737488355328 := by omega
          have HCN := Lib.hid (fun (o : Obj) (j : Nat) (u : Value) (hu : [Value.string (kkB i)][j]? = some u) => (by
            have h := cells_new (wr.alloc o) [.string (kkB i)] 9 (0, 0) j u hu
            rw [show (wr.alloc o).heap.size = wr.heap.size + 1 by simp] at h
            exact h : ((wr.alloc o).alloc (.cells [Value.string (kkB i)].toArray 9)).cell? ((⟨wr.heap.size + 1, 0, none⟩ : Addr).add j) = some u))
          go_wp2_with (at_builtin; refine wpList_append_sl _ rfl (.tmp 82) (.tmp 87) 34 rfl 9 i0 _ 1 16 Tryz.underlying34 hi0 hz0 hz1 hz2 rfl (by decide) _ ul.length (strs ul) rfl (hsl.kept (((Kept.refl (fun _ => False) wr).alloc _).alloc _) (fun _ _ h => h)) ⟨wr.heap.size + 1, 0, none⟩ 1 1 [.string (kkB i)] rfl rfl (HCN.out _) hone (by omega) b1 b2 ?_; intro g4 off4 cap w5 h1 h2 h3; have FIN := Lib.hid (APP.out _ w5 g4 off4 cap (((Kept.refl (fun _ => False) wr).alloc _).alloc _) h1 h2 h3); clear h1 h2 h3)
          go_roundg (gk - 1)
          case measure => omega
          case rel => exact ⟨i + 1, by omega, by go_num, by rw [HNX.out]; exact FIN.out⟩
        · have hnx : useL (i + 1) A false = useL i A false ++ [kkB i] := by rw [useL_succ, if_pos (by simp)]
          have HNX := Lib.hid hnx
          clear hnx
          have hcv := conv_new wr [107, (i : Int)]
          rw [kk_nums i (by omega)] at hcv
          simp only [List.length_cons, List.length_nil, List.map_cons, List.map_nil, Nat.zero_add, Nat.reduceAdd] at hcv
          have h8 : IntKind.u8.wrap (i : Int) = (i : Int) := IntWalk.u8_in _ (by omega)
          have hsl := hj.1
          obtain ⟨aov, cav, rfl, _⟩ := (Rd.of_sl hsl).shape
          have APP := Lib.hid (fun (W w5 : World) (g off cap : Nat) (hk : Kept (fun _ => False) wr W) h1 h2 h3 => (hj.kept hk).push (g := g) (off := off) (cap := cap) (k := kkB i) (w2 := w5) h1 h2 h3)
          have hone : ∀ u ∈ [Value.string (kkB i)], u.oneCell' = true := by simp [Value.oneCell']
          have hlw := useL_len i A false (by omega)
          clear hj
          generalize useL i A false = ul at *
          have b1 : ul.length + 1 ≤ maxLen := by unfold maxLen; omega
          have b2 : (ul.length + 1) * 16 ≤ 140737488355328 := by omega
          have HCN := Lib.hid (fun (o : Obj) (j : Nat) (u : Value) (hu : [Value.string (kkB i)][j]? = some u) => (by
            have h := cells_new (wr.alloc o) [.string (kkB i)] 9 (0, 0) j u hu
            rw [show (wr.alloc o).heap.size = wr.heap.size + 1 by simp] at h
            exact h : ((wr.alloc o).alloc (.cells [Value.string (kkB i)].toArray 9)).cell? ((⟨wr.heap.size + 1, 0, none⟩ : Addr).add j) = some u))
          go_wp2_with (at_builtin; refine wpList_append_sl _ rfl (.tmp 82) (.tmp 87) 34 rfl 9 i0 _ 1 16 Tryz.underlying34 hi0 hz0 hz1 hz2 rfl (by decide) _ ul.length (strs ul) rfl (hsl.kept (((Kept.refl (fun _ => False) wr).alloc _).alloc _) (fun _ _ h => h)) ⟨wr.heap.size + 1, 0, none⟩ 1 1 [.string (kkB i)] rfl rfl (HCN.out _) hone (by omega) b1 b2 ?_; intro g4 off4 cap w5 h1 h2 h3; have FIN := Lib.hid (APP.out _ w5 g4 off4 cap (((Kept.refl (fun _ => False) wr).alloc _).alloc _) h1 h2 h3); clear h1 h2 h3)
          go_roundg (gk - 1)
          case measure => omega
          case rel => exact ⟨i + 1, by omega, by go_num, by rw [HNX.out]; exact FIN.out⟩
      · obtain rfl : N = i := by omega
        have FIN := Lib.hid hj
        have ORD := Lib.hid (own_orderK (O3.out.kept0 hj.2.1))
        have HU : Hid (keys s'.U = useL N A false) := Lib.hid (HKS.out.trans (List.append_nil _))
        have hlw := useL_len N A false (by omega)
        clear hj
        generalize useL N A false = ul at *
        go_wp2_with fail
        refine ORD.out.mono ?_
        rintro e w6 ⟨v6, rfl, hs6⟩
        have hlk : (keys s'.U).length ≤ 1000000 := by rw [HU.out]; first | omega | (simp; omega)
        have SAME := Lib.hid (sameTexts_true v6 _ (keys s'.U) w6 (Rd.of_sl hs6.1) (by rw [HU.out]; exact Rd.of_sl (FIN.out.kept hs6.2.1).1) hlk)
        have KE := Lib.hid (O3.out.keep.trans (FIN.out.2.1.trans hs6.2.1 (fun _ _ h => h)) (fun _ _ h => h))
        clear hs6 ORD
        go_wp2_with fail
        refine SAME.out.mono ?_
        rintro e w7 ⟨rfl, q, rfl⟩
        go_wp2_with fail
        go_ret
        exact ⟨rfl, KE.out.drewN q⟩
  · have O6 := Lib.hid (O2.out.alloc (.cells #[.int .i64 op, .string (kkB A), .string { data := #[] }, .int .i64 0, .int .i64 0] 32))
    have n11 : (op == 11) = false := by simpa using h11
    by_cases h10 : op = 10
    · subst h10
      obtain ⟨r, s', hr, hks⟩ := uses_do (n := N) (at_ := A) (op := 10) (by omega) (by omega) (by omega)
      rw [if_neg (by omega)] at hr
      have HKS := Lib.hid (show keys s'.U = wantL N A false from hks.trans (by rw [show movesB 10 = false by unfold movesB; simp; done]))
      clear hks
      have DO := Lib.hid (own_doA O6.out (by omega) ⟨10, kkB A, ⟨#[]⟩, 0, 0⟩ (1) (show (kkB A).size ≤ 1000000000 by rw [kkB_size]; omega) (show (⟨#[]⟩ : ByteArray).size ≤ 1000000000 by decide) hr)
      go_wp2_with fail
      refine DO.out.mono ?_
      rintro e w3 ⟨kv, B3, rfl, o3, hB3, -, ao3, ca3, rfl⟩
      have bx := (o3.2.box _ (hB3 _ (.head _))).1
      simp only [size_two] at bx
      have x0 := cell_at bx 0
      have x5 := lt_of_block bx
      simp at x0
      have O3 := Lib.hid o3
      clear o3 hB3 bx DO O2 O6
      go_wp2_with fail
      clear x0 x5
      go_loopg [11, 12] N (fun gk v k wr => ∃ i : Nat, i + gk = N ∧ k = .int .i64 (i : Int) ∧ Strs w3 wr v (useL i A false))
      case atStart => exact ⟨0, by omega, rfl, Strs.nil (Kept.refl _ _)⟩
      case round =>
        obtain ⟨i, hi, rfl, hj⟩ := hrel
        by_cases hlt : i < N
        · by_cases hia : i = A
          · subst hia
            have hnx : useL (i + 1) i false = useL i i false ++ [kkB i] := by rw [useL_succ, if_pos (by simp)]
            have HNX := Lib.hid hnx
            clear hnx
            have hcv := conv_new wr [107, (i : Int)]
            rw [kk_nums i (by omega)] at hcv
            simp only [List.length_cons, List.length_nil, List.map_cons, List.map_nil, Nat.zero_add, Nat.reduceAdd] at hcv
            have h8 : IntKind.u8.wrap (i : Int) = (i : Int) := IntWalk.u8_in _ (by omega)
            have hsl := hj.1
            obtain ⟨aov, cav, rfl, _⟩ := (Rd.of_sl hsl).shape
            have APP := Lib.hid (fun (W w5 : World) (g off cap : Nat) (hk : Kept (fun _ => False) wr W) h1 h2 h3 => (hj.kept hk).push (g := g) (off := off) (cap := cap) (k := kkB i) (w2 := w5) h1 h2 h3)
            have hone : ∀ u ∈ [Value.string (kkB i)], u.oneCell' = true := by simp [Value.oneCell']
            have hlw := useL_len i i false (by omega)
            clear hj
            generalize useL i i false = ul at *
            have b1 : ul.length + 1 ≤ maxLen := by unfold maxLen; omega
            have b2 : (ul.length + 1) * 16 ≤ 140737488355328 := by omega
            have HCN := Lib.hid (fun (o : Obj) (j : Nat) (u : Value) (hu : [Value.string (kkB i)][j]? = some u) => (by
              have h := cells_new (wr.alloc o) [.string (kkB i)] 9 (0, 0) j u hu
              rw [show (wr.alloc o).heap.size = wr.heap.size + 1 by simp] at h
              exact h : ((wr.alloc o).alloc (.cells [Value.string (kkB i)].toArray 9)).cell? ((⟨wr.heap.size + 1, 0, none⟩ : Addr).add j) = some u))
            go_wp2_with (at_builtin; refine wpList_append_sl _ rfl (.tmp 82) (.tmp 87) 34 rfl 9 i0 _ 1 16 Tryz.underlying34 hi0 hz0 hz1 hz2 rfl (by decide) _ ul.length (strs ul) rfl (hsl.kept (((Kept.refl (fun _ => False) wr).alloc _).alloc _) (fun _ _ h => h)) ⟨wr.heap.size + 1, 0, none⟩ 1 1 [.string (kkB i)] rfl rfl (HCN.out _) hone (by omega) b1 b2 ?_; intro g4 off4 cap w5 h1 h2 h3; have FIN := Lib.hid (APP.out _ w5 g4 off4 cap (((Kept.refl (fun _ => False) wr).alloc _).alloc _) h1 h2 h3); clear h1 h2 h3)
            go_roundg (gk - 1)
            case measure => omega
            case rel => exact ⟨i + 1, by omega, by go_num, by rw [HNX.out]; exact FIN.out⟩
          · have hnx : useL (i + 1) A false = useL i A false ++ [kkB i] := by rw [useL_succ, if_pos (by simp)]
            have HNX := Lib.hid hnx
            clear hnx
            have hcv := conv_new wr [107, (i : Int)]
            rw [kk_nums i (by omega)] at hcv
            simp only [List.length_cons, List.length_nil, List.map_cons, List.map_nil, Nat.zero_add, Nat.reduceAdd] at hcv
            have h8 : IntKind.u8.wrap (i : Int) = (i : Int) := IntWalk.u8_in _ (by omega)
            have hsl := hj.1
            obtain ⟨aov, cav, rfl, _⟩ := (Rd.of_sl hsl).shape
            have APP := Lib.hid (fun (W w5 : World) (g off cap : Nat) (hk : Kept (fun _ => False) wr W) h1 h2 h3 => (hj.kept hk).push (g := g) (off := off) (cap := cap) (k := kkB i) (w2 := w5) h1 h2 h3)
            have hone : ∀ u ∈ [Value.string (kkB i)], u.oneCell' = true := by simp [Value.oneCell']
            have hlw := useL_len i A false (by omega)
            clear hj
            generalize useL i A false = ul at *
            have b1 : ul.length + 1 ≤ maxLen := by unfold maxLen; omega
            have b2 : (ul.length + 1) * 16 ≤ 140737488355328 := by omega
            have HCN := Lib.hid (fun (o : Obj) (j : Nat) (u : Value) (hu : [Value.string (kkB i)][j]? = some u) => (by
              have h := cells_new (wr.alloc o) [.string (kkB i)] 9 (0, 0) j u hu
              rw [show (wr.alloc o).heap.size = wr.heap.size + 1 by simp] at h
              exact h : ((wr.alloc o).alloc (.cells [Value.string (kkB i)].toArray 9)).cell? ((⟨wr.heap.size + 1, 0, none⟩ : Addr).add j) = some u))
            go_wp2_with (at_builtin; refine wpList_append_sl _ rfl (.tmp 82) (.tmp 87) 34 rfl 9 i0 _ 1 16 Tryz.underlying34 hi0 hz0 hz1 hz2 rfl (by decide) _ ul.length (strs ul) rfl (hsl.kept (((Kept.refl (fun _ => False) wr).alloc _).alloc _) (fun _ _ h => h)) ⟨wr.heap.size + 1, 0, none⟩ 1 1 [.string (kkB i)] rfl rfl (HCN.out _) hone (by omega) b1 b2 ?_; intro g4 off4 cap w5 h1 h2 h3; have FIN := Lib.hid (APP.out _ w5 g4 off4 cap (((Kept.refl (fun _ => False) wr).alloc _).alloc _) h1 h2 h3); clear h1 h2 h3)
            go_roundg (gk - 1)
            case measure => omega
            case rel => exact ⟨i + 1, by omega, by go_num, by rw [HNX.out]; exact FIN.out⟩
        · obtain rfl : N = i := by omega
          have FIN := Lib.hid hj
          have ORD := Lib.hid (own_orderK (O3.out.kept0 hj.2.1))
          have HU : Hid (keys s'.U = useL N A false) := Lib.hid (HKS.out.trans (List.append_nil _))
          have hlw := useL_len N A false (by omega)
          clear hj
          generalize useL N A false = ul at *
          go_wp2_with fail
          refine ORD.out.mono ?_
          rintro e w6 ⟨v6, rfl, hs6⟩
          have hlk : (keys s'.U).length ≤ 1000000 := by rw [HU.out]; first | omega | (simp; omega)
          have SAME := Lib.hid (sameTexts_true v6 _ (keys s'.U) w6 (Rd.of_sl hs6.1) (by rw [HU.out]; exact Rd.of_sl (FIN.out.kept hs6.2.1).1) hlk)
          have KE := Lib.hid (O3.out.keep.trans (FIN.out.2.1.trans hs6.2.1 (fun _ _ h => h)) (fun _ _ h => h))
          clear hs6 ORD
          go_wp2_with fail
          refine SAME.out.mono ?_
          rintro e w7 ⟨rfl, q, rfl⟩
          go_wp2_with fail
          go_ret
          exact ⟨rfl, KE.out.drewN q⟩
    have n10 : (op == 10) = false := by simpa using h10
    have m10 : (op != 10) = true := by simpa using h10
    by_cases h3 : op = 3
    · subst h3
      obtain ⟨r, s', hr, hks⟩ := uses_do (n := N) (at_ := A) (op := 3) (by omega) (by omega) (by omega)
      rw [if_neg (by omega)] at hr
      have HKS := Lib.hid (show keys s'.U = wantL N A false from hks.trans (by rw [show movesB 3 = false by unfold movesB; simp; done]))
      clear hks
      have DO := Lib.hid (own_doA O6.out (by omega) ⟨3, kkB A, ⟨#[]⟩, 0, 0⟩ (1) (show (kkB A).size ≤ 1000000000 by rw [kkB_size]; omega) (show (⟨#[]⟩ : ByteArray).size ≤ 1000000000 by decide) hr)
      go_wp2_with fail
      refine DO.out.mono ?_
      rintro e w3 ⟨kv, B3, rfl, o3, hB3, -, ao3, ca3, rfl⟩
      have bx := (o3.2.box _ (hB3 _ (.head _))).1
      simp only [size_two] at bx
      have x0 := cell_at bx 0
      have x5 := lt_of_block bx
      simp at x0
      have O3 := Lib.hid o3
      clear o3 hB3 bx DO O2 O6
      go_wp2_with fail
      clear x0 x5
      go_loopg [11, 12] N (fun gk v k wr => ∃ i : Nat, i + gk = N ∧ k = .int .i64 (i : Int) ∧ Strs w3 wr v (useL i A false))
      case atStart => exact ⟨0, by omega, rfl, Strs.nil (Kept.refl _ _)⟩
      case round =>
        obtain ⟨i, hi, rfl, hj⟩ := hrel
        by_cases hlt : i < N
        · by_cases hia : i = A
          · subst hia
            have hnx : useL (i + 1) i false = useL i i false ++ [kkB i] := by rw [useL_succ, if_pos (by simp)]
            have HNX := Lib.hid hnx
            clear hnx
            have hcv := conv_new wr [107, (i : Int)]
            rw [kk_nums i (by omega)] at hcv
            simp only [List.length_cons, List.length_nil, List.map_cons, List.map_nil, Nat.zero_add, Nat.reduceAdd] at hcv
            have h8 : IntKind.u8.wrap (i : Int) = (i : Int) := IntWalk.u8_in _ (by omega)
            have hsl := hj.1
            obtain ⟨aov, cav, rfl, _⟩ := (Rd.of_sl hsl).shape
            have APP := Lib.hid (fun (W w5 : World) (g off cap : Nat) (hk : Kept (fun _ => False) wr W) h1 h2 h3 => (hj.kept hk).push (g := g) (off := off) (cap := cap) (k := kkB i) (w2 := w5) h1 h2 h3)
            have hone : ∀ u ∈ [Value.string (kkB i)], u.oneCell' = true := by simp [Value.oneCell']
            have hlw := useL_len i i false (by omega)
            clear hj
            generalize useL i i false = ul at *
            have b1 : ul.length + 1 ≤ maxLen := by unfold maxLen; omega
            have b2 : (ul.length + 1) * 16 ≤ 140737488355328 := by omega
            have HCN := Lib.hid (fun (o : Obj) (j : Nat) (u : Value) (hu : [Value.string (kkB i)][j]? = some u) => (by
              have h := cells_new (wr.alloc o) [.string (kkB i)] 9 (0, 0) j u hu
              rw [show (wr.alloc o).heap.size = wr.heap.size + 1 by simp] at h
              exact h : ((wr.alloc o).alloc (.cells [Value.string (kkB i)].toArray 9)).cell? ((⟨wr.heap.size + 1, 0, none⟩ : Addr).add j) = some u))
            go_wp2_with (at_builtin; refine wpList_append_sl _ rfl (.tmp 82) (.tmp 87) 34 rfl 9 i0 _ 1 16 Tryz.underlying34 hi0 hz0 hz1 hz2 rfl (by decide) _ ul.length (strs ul) rfl (hsl.kept (((Kept.refl (fun _ => False) wr).alloc _).alloc _) (fun _ _ h => h)) ⟨wr.heap.size + 1, 0, none⟩ 1 1 [.string (kkB i)] rfl rfl (HCN.out _) hone (by omega) b1 b2 ?_; intro g4 off4 cap w5 h1 h2 h3; have FIN := Lib.hid (APP.out _ w5 g4 off4 cap (((Kept.refl (fun _ => False) wr).alloc _).alloc _) h1 h2 h3); clear h1 h2 h3)
            go_roundg (gk - 1)
            case measure => omega
            case rel => exact ⟨i + 1, by omega, by go_num, by rw [HNX.out]; exact FIN.out⟩
          · have hnx : useL (i + 1) A false = useL i A false ++ [kkB i] := by rw [useL_succ, if_pos (by simp)]
            have HNX := Lib.hid hnx
            clear hnx
            have hcv := conv_new wr [107, (i : Int)]
            rw [kk_nums i (by omega)] at hcv
            simp only [List.length_cons, List.length_nil, List.map_cons, List.map_nil, Nat.zero_add, Nat.reduceAdd] at hcv
            have h8 : IntKind.u8.wrap (i : Int) = (i : Int) := IntWalk.u8_in _ (by omega)
            have hsl := hj.1
            obtain ⟨aov, cav, rfl, _⟩ := (Rd.of_sl hsl).shape
            have APP := Lib.hid (fun (W w5 : World) (g off cap : Nat) (hk : Kept (fun _ => False) wr W) h1 h2 h3 => (hj.kept hk).push (g := g) (off := off) (cap := cap) (k := kkB i) (w2 := w5) h1 h2 h3)
            have hone : ∀ u ∈ [Value.string (kkB i)], u.oneCell' = true := by simp [Value.oneCell']
            have hlw := useL_len i A false (by omega)
            clear hj
            generalize useL i A false = ul at *
            have b1 : ul.length + 1 ≤ maxLen := by unfold maxLen; omega
            have b2 : (ul.length + 1) * 16 ≤ 140737488355328 := by omega
            have HCN := Lib.hid (fun (o : Obj) (j : Nat) (u : Value) (hu : [Value.string (kkB i)][j]? = some u) => (by
              have h := cells_new (wr.alloc o) [.string (kkB i)] 9 (0, 0) j u hu
              rw [show (wr.alloc o).heap.size = wr.heap.size + 1 by simp] at h
              exact h : ((wr.alloc o).alloc (.cells [Value.string (kkB i)].toArray 9)).cell? ((⟨wr.heap.size + 1, 0, none⟩ : Addr).add j) = some u))
            go_wp2_with (at_builtin; refine wpList_append_sl _ rfl (.tmp 82) (.tmp 87) 34 rfl 9 i0 _ 1 16 Tryz.underlying34 hi0 hz0 hz1 hz2 rfl (by decide) _ ul.length (strs ul) rfl (hsl.kept (((Kept.refl (fun _ => False) wr).alloc _).alloc _) (fun _ _ h => h)) ⟨wr.heap.size + 1, 0, none⟩ 1 1 [.string (kkB i)] rfl rfl (HCN.out _) hone (by omega) b1 b2 ?_; intro g4 off4 cap w5 h1 h2 h3; have FIN := Lib.hid (APP.out _ w5 g4 off4 cap (((Kept.refl (fun _ => False) wr).alloc _).alloc _) h1 h2 h3); clear h1 h2 h3)
            go_roundg (gk - 1)
            case measure => omega
            case rel => exact ⟨i + 1, by omega, by go_num, by rw [HNX.out]; exact FIN.out⟩
        · obtain rfl : N = i := by omega
          have FIN := Lib.hid hj
          have ORD := Lib.hid (own_orderK (O3.out.kept0 hj.2.1))
          have HU : Hid (keys s'.U = useL N A false) := Lib.hid (HKS.out.trans (List.append_nil _))
          have hlw := useL_len N A false (by omega)
          clear hj
          generalize useL N A false = ul at *
          go_wp2_with fail
          refine ORD.out.mono ?_
          rintro e w6 ⟨v6, rfl, hs6⟩
          have hlk : (keys s'.U).length ≤ 1000000 := by rw [HU.out]; first | omega | (simp; omega)
          have SAME := Lib.hid (sameTexts_true v6 _ (keys s'.U) w6 (Rd.of_sl hs6.1) (by rw [HU.out]; exact Rd.of_sl (FIN.out.kept hs6.2.1).1) hlk)
          have KE := Lib.hid (O3.out.keep.trans (FIN.out.2.1.trans hs6.2.1 (fun _ _ h => h)) (fun _ _ h => h))
          clear hs6 ORD
          go_wp2_with fail
          refine SAME.out.mono ?_
          rintro e w7 ⟨rfl, q, rfl⟩
          go_wp2_with fail
          go_ret
          exact ⟨rfl, KE.out.drewN q⟩
    have n3 : (op == 3) = false := by simpa using h3
    have m3 : (op != 3) = true := by simpa using h3
    obtain ⟨r, s', hr, hks⟩ := uses_do (n := N) (at_ := A) (op := op) (by omega) (by omega) (by omega)
    rw [if_neg (by omega)] at hr
    have HKS := Lib.hid (show keys s'.U = wantL N A true from hks.trans (by rw [show movesB op = true by unfold movesB; simp; omega]))
    clear hks
    have DO := Lib.hid (own_doA O6.out (by omega) ⟨op, kkB A, ⟨#[]⟩, 0, 0⟩ (1) (show (kkB A).size ≤ 1000000000 by rw [kkB_size]; omega) (show (⟨#[]⟩ : ByteArray).size ≤ 1000000000 by decide) hr)
    go_wp2_with fail
    refine DO.out.mono ?_
    rintro e w3 ⟨kv, B3, rfl, o3, hB3, -, ao3, ca3, rfl⟩
    have bx := (o3.2.box _ (hB3 _ (.head _))).1
    simp only [size_two] at bx
    have x0 := cell_at bx 0
    have x5 := lt_of_block bx
    simp at x0
    have O3 := Lib.hid o3
    clear o3 hB3 bx DO O2 O6
    go_wp2_with fail
    clear x0 x5
    go_loopg [11, 12] N (fun gk v k wr => ∃ i : Nat, i + gk = N ∧ k = .int .i64 (i : Int) ∧ Strs w3 wr v (useL i A true))
    case atStart => exact ⟨0, by omega, rfl, Strs.nil (Kept.refl _ _)⟩
    case round =>
      obtain ⟨i, hi, rfl, hj⟩ := hrel
      by_cases hlt : i < N
      · by_cases hia : i = A
        · have hnx : useL (i + 1) A true = useL i A true := by rw [useL_succ, if_neg (by simp; omega), List.append_nil]
          have HNX := Lib.hid hnx
          have HJ := Lib.hid hj
          clear hnx hj
          go_wp2_with fail
          go_roundg (gk - 1)
          case measure => omega
          case rel => exact ⟨i + 1, by omega, by go_num, by rw [HNX.out]; exact HJ.out⟩
        · have hnx : useL (i + 1) A true = useL i A true ++ [kkB i] := by rw [useL_succ, if_pos (by simp; omega)]
          have HNX := Lib.hid hnx
          clear hnx
          have hcv := conv_new wr [107, (i : Int)]
          rw [kk_nums i (by omega)] at hcv
          simp only [List.length_cons, List.length_nil, List.map_cons, List.map_nil, Nat.zero_add, Nat.reduceAdd] at hcv
          have h8 : IntKind.u8.wrap (i : Int) = (i : Int) := IntWalk.u8_in _ (by omega)
          have hsl := hj.1
          obtain ⟨aov, cav, rfl, _⟩ := (Rd.of_sl hsl).shape
          have APP := Lib.hid (fun (W w5 : World) (g off cap : Nat) (hk : Kept (fun _ => False) wr W) h1 h2 h3 => (hj.kept hk).push (g := g) (off := off) (cap := cap) (k := kkB i) (w2 := w5) h1 h2 h3)
          have hone : ∀ u ∈ [Value.string (kkB i)], u.oneCell' = true := by simp [Value.oneCell']
          have hlw := useL_len i A true (by omega)
          clear hj
          generalize useL i A true = ul at *
          have b1 : ul.length + 1 ≤ maxLen := by unfold maxLen; omega
          have b2 : (ul.length + 1) * 16 ≤ 140737488355328 := by omega
          have HCN := Lib.hid (fun (o : Obj) (j : Nat) (u : Value) (hu : [Value.string (kkB i)][j]? = some u) => (by
            have h := cells_new (wr.alloc o) [.string (kkB i)] 9 (0, 0) j u hu
            rw [show (wr.alloc o).heap.size = wr.heap.size + 1 by simp] at h
            exact h : ((wr.alloc o).alloc (.cells [Value.string (kkB i)].toArray 9)).cell? ((⟨wr.heap.size + 1, 0, none⟩ : Addr).add j) = some u))
          go_wp2_with (at_builtin; refine wpList_append_sl _ rfl (.tmp 82) (.tmp 87) 34 rfl 9 i0 _ 1 16 Tryz.underlying34 hi0 hz0 hz1 hz2 rfl (by decide) _ ul.length (strs ul) rfl (hsl.kept (((Kept.refl (fun _ => False) wr).alloc _).alloc _) (fun _ _ h => h)) ⟨wr.heap.size + 1, 0, none⟩ 1 1 [.string (kkB i)] rfl rfl (HCN.out _) hone (by omega) b1 b2 ?_; intro g4 off4 cap w5 h1 h2 h3; have FIN := Lib.hid (APP.out _ w5 g4 off4 cap (((Kept.refl (fun _ => False) wr).alloc _).alloc _) h1 h2 h3); clear h1 h2 h3)
          go_roundg (gk - 1)
          case measure => omega
          case rel => exact ⟨i + 1, by omega, by go_num, by rw [HNX.out]; exact FIN.out⟩
      · obtain rfl : N = i := by omega
        have FIN0 := Lib.hid hj
        have hsl := hj.1
        obtain ⟨aov, cav, rfl, _⟩ := (Rd.of_sl hsl).shape
        have hlw := useL_len N A true (by omega)
        have APP := Lib.hid (fun (W w5 : World) (g off cap : Nat) (hk : Kept (fun _ => False) wr W) h1 h2 h3 => (hj.kept hk).push (g := g) (off := off) (cap := cap) (k := kkB A) (w2 := w5) h1 h2 h3)
        have hone : ∀ u ∈ [Value.string (kkB A)], u.oneCell' = true := by simp [Value.oneCell']
        have HU : Hid (keys s'.U = useL N A true ++ [kkB A]) := Lib.hid HKS.out
        clear hj
        generalize useL N A true = ul at *
        have b1 : ul.length + 1 ≤ maxLen := by unfold maxLen; omega
        have b2 : (ul.length + 1) * 16 ≤ 140737488355328 := by omega
        go_wp2_with (at_builtin; refine wpList_append_sl _ rfl (.tmp 90) (.tmp 92) 34 rfl 9 i0 _ 1 16 Tryz.underlying34 hi0 hz0 hz1 hz2 rfl (by decide) _ ul.length (strs ul) rfl (hsl.kept ((Kept.refl (fun _ => False) wr).alloc _) (fun _ _ h => h)) ⟨wr.heap.size, 0, none⟩ 1 1 [.string (kkB A)] rfl rfl (cells_new _ _ _ _) hone (by omega) b1 b2 ?_; intro g4 off4 cap w5 h1 h2 h3; have FIN := Lib.hid (APP.out _ w5 g4 off4 cap ((Kept.refl (fun _ => False) wr).alloc _) h1 h2 h3); clear h1 h2 h3)
        have ORD := Lib.hid (own_orderK (O3.out.kept0 FIN.out.2.1))
        clear APP
        refine ORD.out.mono ?_
        rintro e w6 ⟨v6, rfl, hs6⟩
        have hlk : (keys s'.U).length ≤ 1000000 := by rw [HU.out]; first | omega | (simp; omega)
        have SAME := Lib.hid (sameTexts_true v6 _ (keys s'.U) w6 (Rd.of_sl hs6.1) (by rw [HU.out]; exact Rd.of_sl (FIN.out.kept hs6.2.1).1) hlk)
        have KE := Lib.hid (O3.out.keep.trans (FIN.out.2.1.trans hs6.2.1 (fun _ _ h => h)) (fun _ _ h => h))
        clear hs6 ORD
        go_wp2_with fail
        refine SAME.out.mono ?_
        rintro e w7 ⟨rfl, q, rfl⟩
        go_wp2_with fail
        go_ret
        exact ⟨rfl, KE.out.drewN q⟩
end Go.Proofs.YtehpafebpgndeaaGreatDoor
