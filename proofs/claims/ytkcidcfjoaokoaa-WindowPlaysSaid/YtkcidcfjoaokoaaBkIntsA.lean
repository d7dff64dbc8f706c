/-
  The Book's ints: marks and copies.
-/
import Derived.Test.YtkcidcfjoaokoaaFresh
import Derived.Test.YtkcidcfjoaokoaaProg
import Derived.BigRegion
import Derived.Deep.LoopGhost
import Derived.WalkSpells
import Derived.WalkLawsBesides
import Derived.Deep.RegionLaw
namespace Go.Proofs.Ytkcidcfjoaokoaa
set_option linter.unusedVariables false
set_option linter.unusedSimpArgs false
set_option linter.unnecessarySimpa false
open Go.RowKit

theorem intB_info : (Try.prog.info? 3).map (fun i => (i.zero, i.size, i.bytes)) = some (some (.int .i64 0), 1, 8) := by kernel_rfl
def markIntsE (i k : Nat) : Int := (-1000000 * (i : Int) - (k : Int) - 7)
def markIntsL (i n : Nat) : List Int := (List.range n).map fun j => markIntsE i j
theorem markIntsL_length (i n : Nat) : (markIntsL i n).length = n := by simp [markIntsL]
def mkInts (i k : Nat) : List Value := [Value.int .i64 (markIntsE i k)]
theorem mkInts_length (i : Nat) : ∀ k, (mkInts i k).length = 1 := fun _ => rfl
theorem mkInts_one (i fr n : Nat) : ∀ u ∈ mkF (mkInts i) fr n, u.oneCell' = true := mkF_one (fun _ => by simp [mkInts, Value.oneCell']) fr n
theorem flat_markInts (i n : Nat) : ((markIntsL i n).map (Value.int .i64)) = mkF (mkInts i) 0 n := by
  induction n with | zero => rfl | succ n ih => rw [mkF_succ, ← ih]; simp [markIntsL, List.range_succ, mkInts]

set_option maxRecDepth 100000 in
set_option maxHeartbeats 1600000 in
theorem markInts_any (i fr n : Nat) (w : World) (hi : i ≤ 1000) (hf : fr ≤ 100000) (hn : n ≤ 100000) :
    Calls Try.prog 62 #[.int .i64 i, .int .i64 fr, .int .i64 n] w (FreshRet w 3 1 n (mkF (mkInts i) fr n)) := by
  obtain ⟨i0, hi0, hz0, hz1, hz2⟩ := info_parts intB_info
  go_enter Try.func62, Try.ntmps62
  go_wp2_with fail
  go_loopg [7, 8] n (fun gk v k wr => ∃ j : Nat, j + gk = n ∧ k = .int .i64 ((fr + j : Nat) : Int) ∧ Fresh w wr 3 1 j v (mkF (mkInts i) fr j))
  case atStart => exact ⟨0, by omega, rfl, Fresh.nil (Kept.refl _ _)⟩
  case round =>
    obtain ⟨j, hj, rfl, hfr⟩ := hrel
    by_cases hlt : j < n
    · have NX := Lib.hid (mkF_succ (mkInts i) fr j)
      have hsl := hfr.1
      obtain ⟨aov, cav, rfl, _⟩ := (Rd.of_sl hsl).shape
      have APP := Lib.hid (fun (W w5 : World) (g off cap : Nat) (hk : Kept (fun _ => False) wr W) h1 h2 h3 => Fresh.push (g := g) (off := off) (cap := cap) (w2 := w5) (ys := mkF (mkInts i) fr j ++ mkInts i (fr + j)) (⟨hsl.kept hk (fun _ _ h => h), hfr.2.1.trans hk (fun _ _ h => h), hfr.2.2⟩ : Fresh w W 3 1 j (.slice aov j cav) (mkF (mkInts i) fr j)) h1 h2 h3)
      have hone : ∀ u ∈ ([.int .i64 (-1000000 * (i : Int) - ((fr + j : Nat) : Int) - 7)] : List Value), u.oneCell' = true := by simp [Value.oneCell']
      have b1 : j + 1 ≤ maxLen := by unfold maxLen; omega
      have b2 : (j + 1) * 8 ≤ 140737488355328 := by omega
      clear hfr
      go_wp2_with (at_builtin; refine wpList_append_sl _ rfl (.tmp 17) (.tmp 23) 22 rfl 3 i0 _ 1 8 Try.underlying22 hi0 hz0 hz1 hz2 rfl (by decide) _ j (mkF (mkInts i) fr j) rfl (hsl.kept ((Kept.refl (fun _ => False) wr).alloc _) (fun _ _ h => h)) ⟨wr.heap.size, 0, none⟩ 1 1 [.int .i64 (-1000000 * (i : Int) - ((fr + j : Nat) : Int) - 7)] rfl rfl (cells_new _ _ _ _) hone (by omega) b1 b2 ?_; intro g4 off4 cap w5 h1 h2 h3; have FIN := Lib.hid (APP.out _ w5 g4 off4 cap ((Kept.refl (fun _ => False) wr).alloc _) h1 h2 h3); clear h1 h2 h3)
      go_roundg (gk - 1)
      case measure => omega
      case rel => exact ⟨j + 1, by omega, by go_num, by rw [NX.out]; exact FIN.out⟩
    · obtain rfl : n = j := by omega
      go_wp2_with fail
      go_ret
      exact ⟨_, rfl, hfr⟩

set_option maxRecDepth 100000 in
set_option maxHeartbeats 1600000 in
theorem copyInts_any (v : Value) (l : List Int) (w : World) (h : Rd w 1 l.length v ((l).map (Value.int .i64))) (hn : l.length ≤ 100000) :
    Calls Try.prog 19 #[v] w (FreshRet w 3 1 l.length ((l).map (Value.int .i64))) := by
  obtain ⟨i0, hi0, hz0, hz1, hz2⟩ := info_parts intB_info
  obtain ⟨ao, ca, rfl, hca⟩ := h.shape
  by_cases h0 : l.length = 0
  · obtain rfl : l = [] := List.eq_nil_of_length_eq_zero h0
    simp only [List.length_nil] at hca ⊢
    clear h hn h0
    rcases ao with _ | a
    all_goals
      go_enter Try.func19, Try.ntmps19
      go_wp2_with fail
      go_ret
      exact ⟨_, rfl, Fresh.nil (Kept.refl _ _)⟩
  · obtain ⟨_, _, hc⟩ := h.at
    have hfl : ((l).map (Value.int .i64)).length = l.length * 1 := (by simp)
    obtain ⟨g, off, rfl⟩ : ∃ g off, ao = some ⟨g, off, none⟩ := by
      have hl : 0 < ((l).map (Value.int .i64)).length := by rw [hfl]; omega
      obtain ⟨g, off, e, _⟩ := hc 0 _ (List.getElem?_eq_getElem hl)
      exact ⟨g, off, e⟩
    have hcell : ∀ (j : Nat) (u : Value), ((l).map (Value.int .i64))[j]? = some u → w.cell? ((⟨g, off, none⟩ : Addr).add j) = some u := fun j u hu => by
      obtain ⟨g', off', e, h1⟩ := hc j u hu
      injection e with e
      injection e with e1 e2
      subst e1 e2
      rw [Addr.add_lit]
      exact h1
    have HC := Lib.hid hcell
    have H1 := Lib.hid (show ∀ u ∈ ((l).map (Value.int .i64)), u.oneCell' = true from fun u hu => by obtain ⟨x, _, rfl⟩ := List.mem_map.1 hu; rfl)
    have b1 : 0 + l.length ≤ maxLen := by unfold maxLen; omega
    have b2 : (0 + l.length) * 8 ≤ 140737488355328 := by omega
    have FR := Lib.hid (Fresh.nil (E := 3) (size := 1) (Kept.refl (fun _ => False) w))
    generalize ((l).map (Value.int .i64)) = xs at *
    generalize l.length = n at *
    clear h hc hcell
    go_enter Try.func19, Try.ntmps19
    go_wp2_with (at_builtin; refine wpList_append_sl _ rfl (.const (.slice none 0 0)) (.tmp 3) 22 rfl 3 i0 _ 1 8 Try.underlying22 hi0 hz0 hz1 hz2 rfl (by decide) (.slice none 0 0) 0 [] rfl (Sl.nil _ _ _) ⟨g, off, none⟩ n ca xs rfl hfl HC.out H1.out (by omega) b1 b2 ?_; intro g4 off4 cap w5 h1 h2 h3; have F1 := Lib.hid h1; have F2 := Lib.hid h2; have F3 := Lib.hid h3; clear h1 h2 h3)
    go_ret
    refine ⟨_, rfl, ?_, F2.out.mono (fun i _ e => by cases e), .inr ⟨g4, off4, cap, ?_, ?_⟩⟩
    · have := F1.out
      simpa using this
    · simp
    · exact F3.out.elim (fun e => by cases e) (fun e => e)
end Go.Proofs.Ytkcidcfjoaokoaa
