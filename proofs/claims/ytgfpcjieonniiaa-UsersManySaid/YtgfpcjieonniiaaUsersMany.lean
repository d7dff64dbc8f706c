/-
  UsersMany: as many users as may be are taken, one more is not; nor two of one name: the walk.
-/
import Derived.Test.YtgfpcjieonniiaaUserE
import Derived.Test.YtgfpcjieonniiaaBytes
import Derived.Deep.RegionLaw
namespace Go.Proofs.Ytgfpcjieonniiaa
set_option linter.unusedVariables false
set_option linter.unusedSimpArgs false
set_option linter.unnecessarySimpa false
open Go.RowKit Go.Maps

theorem Sl.setAt {w : World} {E : TypeId} {size n g off cap : Nat} {xs : List Value} (h : Sl w E size n (.slice (some ⟨g, off, none⟩) n cap) xs) (j : Nat) (u : Value) :
    Sl (w.setCell ⟨g, off + j, none⟩ u) E size n (.slice (some ⟨g, off, none⟩) n cap) (xs.set j u) := by
  rcases h.2 with ⟨hv, _⟩ | ⟨g', off', cap', cur, hv, hg, hn, hm, hs, ht⟩
  · cases hv
  · obtain ⟨rfl, rfl, rfl⟩ : g' = g ∧ off' = off ∧ cap' = cap := by
      injection hv with h1 h2 h3
      injection h1 with h1
      injection h1 with h4 h5
      exact ⟨h4.symm, h5.symm, h3.symm⟩
    refine ⟨by rw [List.length_set]; exact h.1, .inr ⟨g', off', cap', _, rfl, setCell_block hg _ _, hn, hm, by simpa using hs, ?_⟩⟩
    rw [Array.toList_setIfInBounds, List.drop_set, if_neg (by omega), Nat.add_sub_cancel_left, List.take_set, ht]
theorem Sl.thaw {w : World} {E : TypeId} {size n g off cap : Nat} {xs : List Value} (h : Sl w E size n (.slice (some ⟨g, off, none⟩) n cap) xs) (j : Nat) : w.frozen? ⟨g, j, none⟩ = false := by
  rcases h.2 with ⟨hv, _⟩ | ⟨g', off', cap', cur, hv, hg, hn, hm, hs, ht⟩
  · cases hv
  · injection hv with h1 h2 h3
    injection h1 with h1
    injection h1 with h4 h5
    subst h4
    exact frozen_at hg j

/-- v: a slice of one's own with these users; nothing that was there has turned. -/
def Usrs (w w' : World) (v : Value) (l : List (ByteArray × ByteArray)) : Prop := Sl w' 29 2 l.length v (l.flatMap userCells) ∧ Kept (fun _ => False) w w' ∧ ∀ k, v.ownBlock = some k → w.heap.size ≤ k
theorem Usrs.nil {w w' : World} (h : Kept (fun _ => False) w w') : Usrs w w' (.slice none 0 0) [] := ⟨Sl.nil _ _ _, h, fun k hk => by cases hk⟩
theorem Usrs.kept {w w1 w2 : World} {v : Value} {l : List (ByteArray × ByteArray)} (h : Usrs w w1 v l) (hk : Kept (fun _ => False) w1 w2) : Usrs w w2 v l := ⟨h.1.kept hk (fun _ _ h => h), h.2.1.trans hk (fun _ _ h => h), h.2.2⟩
theorem Usrs.push {w w1 w2 : World} {v : Value} {l : List (ByteArray × ByteArray)} (h : Usrs w w1 v l) {g off cap : Nat} {a b : ByteArray}
    (h1 : Sl w2 29 2 (l.length + 1) (.slice (some ⟨g, off, none⟩) (l.length + 1) cap) (l.flatMap userCells ++ [.string a, .string b])) (h2 : Kept (fun i => v.ownBlock = some i) w1 w2) (h3 : v.ownBlock = some g ∨ w1.heap.size ≤ g) :
    Usrs w w2 (.slice (some ⟨g, off, none⟩) (l.length + 1) cap) (l ++ [(a, b)]) := by
  refine ⟨?_, h.2.1.trans h2 (fun i hi e => by have := h.2.2 i e; omega), fun i hi => ?_⟩
  · rw [List.length_append, List.flatMap_append]
    simpa [userCells] using h1
  · simp [Value.ownBlock] at hi
    subst hi
    exact h3.elim (h.2.2 g) (fun e => Nat.le_trans h.2.1.size e)

def nmU (k : Nat) : ByteArray := ⟨#[117, (97 + k % 26).toUInt8, (97 + k / 26).toUInt8]⟩
def usL (n : Nat) (s : ByteArray) : List (ByteArray × ByteArray) := (List.range n).map fun k => (nmU k, s)
def usT (n : Nat) (s : ByteArray) : List (ByteArray × ByteArray) := (usL n s).set (n - 1) (nmU 0, s)
theorem usL_succ (n : Nat) (s : ByteArray) : usL (n + 1) s = usL n s ++ [(nmU n, s)] := by simp [usL, List.range_succ]
theorem usL_length (n : Nat) (s : ByteArray) : (usL n s).length = n := by simp [usL]
theorem usT_length (n : Nat) (s : ByteArray) : (usT n s).length = n := by simp [usT, usL]
theorem nm_right : ∀ k < 30, (decide (1 ≤ (nmU k).size) && decide ((nmU k).size ≤ 20) && true && (nmU k).data.toList.all nameByte) = true := by decide +kernel
theorem nm_nodup : ∀ n < 21, ((List.range n).map nmU).Nodup := by decide +kernel
theorem nm_twice : ∀ n < 31, 1 < n → ¬ (((List.range n).map nmU).set (n - 1) (nmU 0)).Nodup := by decide +kernel
theorem us_names (n : Nat) (s : ByteArray) : (usL n s).map (·.1) = (List.range n).map nmU := by simp [usL]
theorem us_valid (n : Nat) (s : ByteArray) (hn : n ≤ 30) (hs : s.size = 32) : validB (usL n s) = decide (n ≤ 20) := by
  unfold validB
  rw [us_names, usL_length]
  by_cases h : n ≤ 20
  · have h1 : (usL n s).all (fun x => rightB x.1 x.2) = true := by
      rw [List.all_eq_true]
      intro x hx
      obtain ⟨k, hk, rfl⟩ := List.mem_map.1 hx
      have := nm_right k (by have := List.mem_range.1 hk; omega)
      unfold rightB
      rw [decide_eq_true hs]
      exact this
    rw [h1, decide_eq_true (nm_nodup n (by omega)), Bool.and_true, Bool.and_true]
  · rw [decide_eq_false h, Bool.false_and, Bool.false_and]
theorem ut_valid (n : Nat) (s : ByteArray) (hn : n ≤ 30) (h1 : 1 < n) : validB (usT n s) = false := by
  unfold validB
  have h : (usT n s).map (·.1) = ((List.range n).map nmU).set (n - 1) (nmU 0) := by unfold usT; rw [List.map_set, us_names]
  rw [h, decide_eq_false (nm_twice n (by omega) h1), Bool.and_false]
theorem flat_name : ∀ (l : List (ByteArray × ByteArray)) (i : Nat) (hi : i < l.length) (a : ByteArray), (l.flatMap userCells).set (i * 2) (.string a) = (l.set i (a, (l[i]).2)).flatMap userCells
  | [], i, hi, a => by simp at hi
  | x :: r, 0, hi, a => by simp [userCells]
  | x :: r, i + 1, hi, a => by
    have h := flat_name r i (by simpa using hi) a
    rw [List.flatMap_cons, show (i + 1) * 2 = i * 2 + 1 + 1 by omega]
    simp only [userCells, List.cons_append, List.nil_append, List.set_cons_succ, List.getElem_cons_succ, List.flatMap_cons]
    exact congrArg _ (congrArg _ h)
theorem nm_cat : ∀ k < 30, (⟨#[117]⟩ : ByteArray) ++ strOfNums [((97 + k % 26 : Nat) : Int), ((97 + k / 26 : Nat) : Int)] = nmU k := by decide +kernel
theorem usr_info : (Try.prog.info? 29).map (fun i => (i.zero, i.size, i.bytes)) = some (some (.agg #[.string ByteArray.empty, .string ByteArray.empty]), 2, 32) := by kernel_rfl

set_option maxRecDepth 100000 in
set_option maxHeartbeats 4000000 in
theorem usersMany_walk (n : Int) (twice : Bool) (w : World) (n0 : -9223372036854775808 ≤ n) (n1 : n ≤ 9223372036854775807) :
    Calls Try.prog 6 #[.int .i64 n, .bool twice] w fun e w' => e = .returned (.bool true) ∧ Kept (fun _ => False) w w' := by
  by_cases c1 : n < 0
  · go_enter Try.func6, Try.ntmps6
    go_wp2_with (go_at_call 7; refine (alive_any _).mono ?_; rintro e w1 ⟨rfl, hk1⟩)
    go_ret
    exact ⟨rfl, hk1⟩
  by_cases c2 : 30 < n
  · go_enter Try.func6, Try.ntmps6
    go_wp2_with (go_at_call 7; refine (alive_any _).mono ?_; rintro e w1 ⟨rfl, hk1⟩)
    go_ret
    exact ⟨rfl, hk1⟩
  obtain ⟨N, rfl⟩ : ∃ N : Nat, n = N := ⟨n.toNat, by omega⟩
  have d1 : N ≤ 30 := by omega
  clear c1 c2 n0 n1
  obtain ⟨s, hs, hsz⟩ : ∃ s, s = fillB ⟨#[115]⟩ 32 ∧ s.size = 32 := ⟨_, rfl, fillB_size _ _⟩
  have hfill := fun W => fill_any ⟨#[115]⟩ 32 W (by decide) (by decide)
  rw [← hs] at hfill
  have HF := Lib.hid hfill
  have HZ := Lib.hid hsz
  clear hs hfill hsz
  obtain ⟨i0, hi0, hz0, hz1, hz2⟩ := info_parts usr_info
  go_enter Try.func6, Try.ntmps6
  go_wp2_with fail
  refine (alive_any _).mono ?_
  rintro e w1 ⟨rfl, hk1⟩
  have K1 := Lib.hid hk1
  clear hk1
  go_wp2_with fail
  go_loopg [5, 6] N (fun gk v k wr => ∃ i : Nat, i + gk = N ∧ k = .int .i64 (i : Int) ∧ Usrs w wr v (usL i s))
  case atStart => exact ⟨0, by omega, rfl, Usrs.nil K1.out⟩
  case round =>
    obtain ⟨i, hi, rfl, hj⟩ := hrel
    by_cases hlt : i < N
    · have hr : Int.tmod (i : Int) 26 = ((i % 26 : Nat) : Int) := by rw [Int.tmod_eq_emod_of_nonneg (by omega)]; omega
      have hq : Int.tdiv (i : Int) 26 = ((i / 26 : Nat) : Int) := by rw [Int.tdiv_eq_ediv_of_nonneg (by omega)]; omega
      have hr2 : i % 26 < 26 := Nat.mod_lt _ (by decide)
      have hq2 : i / 26 < 2 := by omega
      have NM := Lib.hid (nm_cat i (by omega))
      generalize i % 26 = r at *
      generalize i / 26 = q at *
      have h5 : IntKind.i64.wrap (97 + (r : Int)) = 97 + (r : Int) := IntWalk.i64_in _ (by omega)
      have h6 : IntKind.i64.wrap (q : Int) = (q : Int) := IntWalk.i64_in _ (by omega)
      have h7 : IntKind.i64.wrap (97 + (q : Int)) = 97 + (q : Int) := IntWalk.i64_in _ (by omega)
      have h8 : IntKind.u8.wrap (97 + (r : Int)) = 97 + (r : Int) := IntWalk.u8_in _ (by omega)
      have h9 : IntKind.u8.wrap (97 + (q : Int)) = 97 + (q : Int) := IntWalk.u8_in _ (by omega)
      have NX := Lib.hid (usL_succ i s)
      have hul := usL_length i s
      obtain ⟨t, hts, htz⟩ : ∃ t, t = strOfNums [97 + (r : Int), 97 + (q : Int)] ∧ t.size = 2 := ⟨_, rfl, rfl⟩
      have hcv : (convert 39 9 (.slice (some ⟨wr.heap.size, 0, none⟩) 2 2)).run Try.prog (wr.alloc (.cells #[.int .u8 (97 + (r : Int)), .int .u8 (97 + (q : Int))] 5)).drew = .ok (.string t) (wr.alloc (.cells #[.int .u8 (97 + (r : Int)), .int .u8 (97 + (q : Int))] 5)).drew := by rw [hts]; exact conv_new wr.drew [97 + (r : Int), 97 + (q : Int)]
      have hnm : (⟨#[117]⟩ : ByteArray) ++ t = nmU i := by
        rw [hts, ← NM.out]
        rfl
      rw [← hnm] at NX
      have hsl := hj.1
      obtain ⟨aov, cav, rfl, _⟩ := (Rd.of_sl hsl).shape
      have APP := Lib.hid (fun (W w5 : World) (g off cap : Nat) (hk : Kept (fun _ => False) wr W) h1 h2 h3 => (hj.kept hk).push (g := g) (off := off) (cap := cap) (a := (⟨#[117]⟩ : ByteArray) ++ t) (b := s) (w2 := w5) h1 h2 h3)
      have hone : ∀ u ∈ [Value.string ((⟨#[117]⟩ : ByteArray) ++ t), Value.string s], u.oneCell' = true := by simp [Value.oneCell']
      clear hj hts hnm NM K1
      rw [hul] at hsl APP
      generalize usL i s = ul at *
      have b1 : i + 1 ≤ maxLen := by unfold maxLen; omega
      have b2 : (i + 1) * 32 ≤ 140737488355328 := by omega
      have hcn : ∀ (j : Nat) (u : Value), [Value.string ((⟨#[117]⟩ : ByteArray) ++ t), Value.string s][j]? = some u → (((wr.alloc (.cells #[.int .u8 (97 + (r : Int)), .int .u8 (97 + (q : Int))] 5)).alloc (.cells #[.string ((⟨#[117]⟩ : ByteArray) ++ t), .string s] 29)).drew).cell? ((⟨wr.heap.size + 1, 0, none⟩ : Addr).add j) = some u := fun j u hu => by
        have h := cells_new (wr.alloc (.cells #[.int .u8 (97 + (r : Int)), .int .u8 (97 + (q : Int))] 5)) [.string ((⟨#[117]⟩ : ByteArray) ++ t), .string s] 29 (0, 0) j u hu
        rw [show (wr.alloc (.cells #[.int .u8 (97 + (r : Int)), .int .u8 (97 + (q : Int))] 5)).heap.size = wr.heap.size + 1 by simp] at h
        exact h
      have hkW : Kept (fun _ => False) wr (((wr.alloc (.cells #[.int .u8 (97 + (r : Int)), .int .u8 (97 + (q : Int))] 5)).alloc (.cells #[.string ((⟨#[117]⟩ : ByteArray) ++ t), .string s] 29)).drew) := (((Kept.refl (fun _ => False) wr).alloc _).alloc _).drew
      have HSL := Lib.hid (hsl.kept hkW (fun _ _ h => h))
      have APP2 := Lib.hid (fun (w5 : World) (g off cap : Nat) => APP.out (((wr.alloc (.cells #[.int .u8 (97 + (r : Int)), .int .u8 (97 + (q : Int))] 5)).alloc (.cells #[.string ((⟨#[117]⟩ : ByteArray) ++ t), .string s] 29)).drew) w5 g off cap hkW)
      have HCN := Lib.hid hcn
      clear hcn hkW hsl APP
      go_wp2_with fail
      go_region_law (first
        | (refine step_append_sl _ rfl (.tmp 26) (.tmp 40) 38 rfl 29 i0 _ 2 32 Try.underlying38 hi0 hz0 hz1 hz2 rfl (by decide) (.slice aov i cav) i (ul.flatMap userCells) (by kernel_rfl) HSL.out ⟨wr.heap.size + 1, 0, none⟩ 1 1 [.string ((⟨#[117]⟩ : ByteArray) ++ t), .string s] (by kernel_rfl) rfl HCN.out hone (by omega) b1 b2 ?_; intro g4 off4 cap w5 h1 h2 h3; have FIN := Lib.hid (APP2.out w5 g4 off4 cap h1 h2 h3); clear h1 h2 h3)
        | (go_simp; go_at_call 8; refine (HF.out _).mono ?_; rintro e w2 ⟨rfl, rfl⟩))
      all_goals
        go_wp2_with fail
        go_roundg (gk - 1)
        case measure => omega
        case rel => exact ⟨i + 1, by omega, by go_num, by rw [NX.out]; exact FIN.out⟩
    · obtain rfl : N = i := by omega
      have hsl := hj.1
      rw [usL_length] at hsl
      by_cases ht : twice = true ∧ 1 < N
      · obtain ⟨rfl, h1N⟩ := ht
        rcases hsl.form with ⟨_, h0, _⟩ | ⟨g, off, cap, rfl, hc, hlt2⟩
        · omega
        obtain ⟨M, rfl⟩ : ∃ M, N = M + 1 := ⟨N - 1, by omega⟩
        have h0 := hsl.cell rfl
        have q0 : wr.cell? ⟨g, off, none⟩ = some (.string (nmU 0)) := by
          have := h0 0 (.string (nmU 0)) (by simp [usL, List.range_succ_eq_map, userCells])
          rwa [Addr.add_lit] at this
        have qM : (wr.cell? ⟨g, off + M * 2, none⟩).isSome = true := by
          have hlen : M * 2 < ((usL (M + 1) s).flatMap userCells).length := by have := hsl.1; omega
          have := h0 (M * 2) _ (List.getElem?_eq_getElem hlen)
          rw [Addr.add_lit] at this
          rw [this]; rfl
        obtain ⟨vM, qM⟩ := Option.isSome_iff_exists.1 qM
        have fM : wr.frozen? ⟨g, off + M * 2, none⟩ = false := hsl.thaw _
        have hT : Sl (wr.setCell ⟨g, off + M * 2, none⟩ (.string (nmU 0))) 29 2 (M + 1) (.slice (some ⟨g, off, none⟩) (M + 1) cap) ((usT (M + 1) s).flatMap userCells) := by
          have h := hsl.setAt (M * 2) (.string (nmU 0))
          rw [flat_name _ M (by rw [usL_length]; omega)] at h
          have e : (usL (M + 1) s).set M (nmU 0, ((usL (M + 1) s)[M]'(by rw [usL_length]; omega)).2) = usT (M + 1) s := by
            unfold usT
            rw [Nat.add_sub_cancel]
            congr 1
            simp [usL]
          rw [e] at h
          exact h
        have hnew := new_any (.slice (some ⟨g, off, none⟩) (M + 1) cap) (usT (M + 1) s) (wr.setCell ⟨g, off + M * 2, none⟩ (.string (nmU 0))) (by rw [usT_length]; exact Rd.of_sl hT)
        have hge : w.heap.size ≤ g := hj.2.2 g rfl
        have hkT : Kept (fun k => k = g) wr (wr.setCell ⟨g, off + M * 2, none⟩ (.string (nmU 0))) := ((Kept.refl (fun k => k = g) wr).setCell (p := ⟨g, off + M * 2, none⟩) (fun _ => rfl) _)
        have KW := hj.2.1.trans hkT (fun k hk e => by omega)
        have SUB := Lib.hid (hnew.mono (R' := fun e w' => e = .returned (.tuple #[.pointer none, .int .i64 1]) ∧ Kept (fun _ => False) w w') (by
          rintro e w' ⟨hk, h⟩
          rw [ut_valid (M + 1) s d1 h1N] at h
          exact ⟨h, KW.trans hk (fun _ _ h => h)⟩))
        have hw1 : IntKind.i64.wrap ((M : Int) + 1 - 1) = (M : Int) := by rw [IntWalk.i64_in _ (by omega)]; omega
        have hw2 : IntKind.i64.wrap (((M + 1 : Nat) : Int) - 1) = (M : Int) := by rw [IntWalk.i64_in _ (by omega)]; omega
        have hw3 : IntKind.i64.wrap ((M : Int)) = (M : Int) := by rw [IntWalk.i64_in _ (by omega)]
        clear hj hsl h0 hT hnew hkT KW K1
        go_wp2_with fail
        refine SUB.out.mono ?_
        rintro e w2 ⟨rfl, hk2⟩
        have K2 := Lib.hid hk2
        clear hk2
        by_cases hM : M + 1 ≤ 20
        · go_wp2_with fail
          go_ret
          exact ⟨by first | rfl | (simp; done), K2.out⟩
        · go_wp2_with fail
          go_ret
          exact ⟨by first | rfl | (simp; done), K2.out⟩
      · have hnv : validB (usL N s) = decide (N ≤ 20) := us_valid N s d1 HZ.out
        obtain ⟨aov, cav, rfl, _⟩ := (Rd.of_sl hsl).shape
        have hnew := new_any (.slice aov N cav) (usL N s) wr (by rw [usL_length]; exact Rd.of_sl hsl)
        have KW := hj.2.1
        by_cases hM : N ≤ 20
        · have SUB := Lib.hid (hnew.mono (R' := fun e w' => ∃ b m L, e = .returned (.tuple #[.pointer (some ⟨b, 0, none⟩), .int .i64 0]) ∧ UsersAt w' b m L ∧ L.length = N ∧ Kept (fun _ => False) w w') (by
            rintro e w' ⟨hk, h⟩
            rw [hnv, decide_eq_true hM] at h
            obtain ⟨b, m, L, rfl, hu, hm, _, _⟩ := h
            exact ⟨b, m, L, rfl, hu, by have h5 := congrArg List.length hm.1; rw [List.length_map, usL_length] at h5; exact h5, KW.trans hk (fun _ _ h => h)⟩))
          clear hj hsl hnew KW hnv K1
          cases twice with
          | false =>
            go_wp2_with fail
            refine SUB.out.mono ?_
            rintro e w2 ⟨b, m, L, rfl, hu, hL, hk2⟩
            have K2 := Lib.hid hk2
            have NMS := Lib.hid (names_any b m L w2 hu (by omega))
            clear hu hk2
            go_wp2_with fail
            refine NMS.out.mono ?_
            rintro e w3 ⟨ao, ca, rfl, hk3⟩
            have K3 := Lib.hid (K2.out.trans hk3 (fun _ _ h => h))
            clear hk3
            go_wp2_with fail
            go_ret
            exact ⟨by first | rfl | (simp [hL]; done), K3.out⟩
          | true =>
            have h1N : ¬ 1 < N := fun h => ht ⟨rfl, h⟩
            clear ht
            go_wp2_with fail
            refine SUB.out.mono ?_
            rintro e w2 ⟨b, m, L, rfl, hu, hL, hk2⟩
            have K2 := Lib.hid hk2
            have NMS := Lib.hid (names_any b m L w2 hu (by omega))
            clear hu hk2
            go_wp2_with fail
            refine NMS.out.mono ?_
            rintro e w3 ⟨ao, ca, rfl, hk3⟩
            have K3 := Lib.hid (K2.out.trans hk3 (fun _ _ h => h))
            clear hk3
            go_wp2_with fail
            go_ret
            exact ⟨by first | rfl | (simp [hL]; done), K3.out⟩
        · have SUB := Lib.hid (hnew.mono (R' := fun e w' => e = .returned (.tuple #[.pointer none, .int .i64 1]) ∧ Kept (fun _ => False) w w') (by
            rintro e w' ⟨hk, h⟩
            rw [hnv, decide_eq_false hM] at h
            exact ⟨h, KW.trans hk (fun _ _ h => h)⟩))
          clear hj hsl hnew KW hnv K1
          cases twice with
          | false =>
            go_wp2_with fail
            refine SUB.out.mono ?_
            rintro e w2 ⟨rfl, hk2⟩
            have K2 := Lib.hid hk2
            clear hk2
            go_wp2_with fail
            go_ret
            exact ⟨by first | rfl | (simp; done), K2.out⟩
          | true =>
            have h1N : ¬ 1 < N := fun h => ht ⟨rfl, h⟩
            omega
end Go.Proofs.Ytgfpcjieonniiaa
