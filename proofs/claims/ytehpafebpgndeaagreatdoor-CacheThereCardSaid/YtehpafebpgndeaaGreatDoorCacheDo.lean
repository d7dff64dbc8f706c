/-
  The laws' own function do: commands on a new cache, and what they tell.
-/
import Derived.Test.YtehpafebpgndeaaGreatDoorCacheV
namespace Go.Proofs.YtehpafebpgndeaaGreatDoor
set_option linter.unusedVariables false
set_option linter.unusedSimpArgs false
set_option linter.unnecessarySimpa false
open Go.RowKit
set_option maxRecDepth 100000

theorem Laid.kept0 {w w' : World} (h : Laid w) (hk : Kept (fun _ => False) w w') : Laid w' := h.kept hk (fun _ _ h => h)
set_option maxHeartbeats 4000000 in
theorem do_any (xs : List Cm) (ao : Option Addr) (ca : Nat) (w : World) (hL : Laid w) (hx : Rd w 5 xs.length (.slice ao xs.length ca) (flatC xs)) (hl : xs.length ≤ 20) (hops : ∀ x ∈ xs, x.op ≠ 11 ∧ x.op ≠ 12 ∧ x.key.size ≤ 1000 ∧ x.val.size ≤ 1000) :
    Calls Tryz.prog 25 #[.int .i64 1, .slice ao xs.length ca] w fun e w' => ∃ v, e = .returned v ∧ Sl w' 36 5 xs.length v (flatR (runC (newC 100000) xs 1).1) ∧ Kept (fun _ => False) w w' := by
  obtain ⟨i0, hi0, hz0, hz1, hz2⟩ := info_parts rp_info
  have NEW := Lib.hid (own_newc (Kept.refl (fun _ => False) w) hL 100000 (by decide) (by decide))
  have HX := Lib.hid hx
  have HO := Lib.hid hops
  have STEP := Lib.hid (fun i (h : i < xs.length) => runC_take_succ xs (newC 100000) 1 i h)
  have NEXT := Lib.hid (fun i (h : i < xs.length) => atC_succ xs (newC 100000) 1 i h)
  have LEN := Lib.hid (runC_length xs (newC 100000) 1)
  clear hx hops hL
  obtain ⟨n, hn⟩ : ∃ n, n = xs.length := ⟨_, rfl⟩
  rw [← hn] at hl ⊢
  have HN := Lib.hid hn
  clear hn
  go_enter Tryz.func25, Tryz.ntmps25
  go_wp2_with fail
  refine NEW.out.mono ?_
  rintro e w1 ⟨c, rfl, o1⟩
  have ST := Lib.hid (o1.outr 36 5)
  clear o1 NEW
  go_wp2_with fail
  go_loopg [6, 7] n (fun gk v k wr => ∃ i : Nat, i + gk = n ∧ k = .int .i64 (i : Int) ∧ Outr w c (atC (newC 100000) xs 1 i) (i : Int) 36 5 i v (flatR ((runC (newC 100000) xs 1).1.take i)) wr)
  case atStart => exact ⟨0, by omega, rfl, ST.out⟩
  case round =>
    obtain ⟨i, hi', rfl, hj⟩ := hrel
    by_cases hlt : i < n
    · have hix : i < xs.length := by rw [← HN.out]; exact hlt
      have hrd := HX.out.kept hj.keep (fun _ _ h => h)
      rw [← HN.out] at hrd
      obtain ⟨g, off, rfl, x0, x1, x2, x3, x4⟩ := rd_cm (by rw [← HN.out]; exact hrd) rfl i hix
      obtain ⟨h11, h12, hk, hv⟩ := HO.out _ (List.getElem_mem hix)
      have ST1 := Lib.hid (STEP.out i hix)
      have NX1 := Lib.hid (NEXT.out i hix)
      have DO := Lib.hid (hj.does (r := (doC (atC (newC 100000) xs 1 i) xs[i] (1 + (i : Int))).1) (s' := atC (newC 100000) xs 1 (i + 1)) (by omega) xs[i] (1 + (i : Int)) (by omega) (by omega) h11 h12 (Prod.ext rfl NX1.out.symm))
      have hw1 : wrap64 (1 + (i : Int)) = 1 + (i : Int) := by unfold wrap64; omega
      clear hj hrd h11 h12 hk hv
      generalize hxx : (xs[i]'hix) = x at *
      go_wp2_with fail
      refine DO.out.mono ?_
      rintro e w3 ⟨rfl, hj⟩
      generalize hrr : (doC (atC (newC 100000) xs 1 i) x (1 + (i : Int))).1 = r at *
      have hsl := hj.vs
      obtain ⟨aov, cav, hvs, _⟩ := (Rd.of_sl hsl).shape
      subst hvs
      have DONE := Lib.hid (fun (W w2 : World) (g4 off4 cap : Nat) (hk : Kept (fun _ => False) w3 W) h1 h2 h3 => hj.push (j := 1) (news := r.cells) hk (w2 := w2) (g := g4) (off := off4) (cap := cap) h1 h2 h3)
      have hone : ∀ u ∈ r.cells, u.oneCell' = true := by simp [Rp.cells, Value.oneCell']
      have b1 : i + 1 ≤ maxLen := by unfold maxLen; omega
      have b2 : (i + 1) * 64 ≤ 140737488355328 := by omega
      clear hj hw1 x0 x1 x2 x3 x4 DO
      go_wp2_with (at_builtin; refine wpList_append_sl _ rfl (.tmp 19) (.tmp 29) 29 rfl 36 i0 _ 5 64 Tryz.underlying29 hi0 hz0 hz1 hz2 rfl (by decide) _ i (flatR ((runC (newC 100000) xs 1).1.take i)) rfl (hsl.kept ((Kept.refl (fun _ => False) w3).alloc _) (fun _ _ h => h)) ⟨w3.heap.size, 0, none⟩ 1 1 r.cells rfl rfl (cells_new _ _ _ _) hone (by omega) b1 b2 ?_; intro g4 off4 cap w2 h1 h2 h3; have FINQ := Lib.hid (DONE.out _ w2 g4 off4 cap ((Kept.refl (fun _ => False) w3).alloc _) h1 h2 h3); clear h1 h2 h3)
      go_roundg (gk - 1)
      case measure => omega
      case rel => exact ⟨i + 1, by omega, by go_num, by rw [ST1.out, flatR_snoc]; exact FINQ.out⟩
    · obtain rfl : i = n := by omega
      rw [List.take_of_length_le (by rw [LEN.out, ← HN.out]; exact Nat.le_refl _)] at hj
      have hsl := hj.vs
      obtain ⟨aov, cav, hvs, _⟩ := (Rd.of_sl hsl).shape
      subst hvs
      have FIN := Lib.hid (⟨hj.vs, hj.keep⟩ : _ ∧ _)
      clear hj hsl
      go_wp2_with fail
      go_ret
      exact ⟨_, rfl, FIN.out⟩
end Go.Proofs.YtehpafebpgndeaaGreatDoor
