/-
  The Book's texts: marks and copies.
-/
import Derived.Test.YtgfpcjieonniiaaGreatFresh
import Derived.Test.YtgfpcjieonniiaaGreatSameTexts
import Derived.Test.YtgfpcjieonniiaaGreatBookName
import Derived.BigRegion
import Derived.Deep.LoopGhost
import Derived.WalkSpells
import Derived.WalkLawsBesides
import Derived.Deep.RegionLaw
namespace Go.Proofs.YtgfpcjieonniiaaGreat
set_option linter.unusedVariables false
set_option linter.unusedSimpArgs false
set_option linter.unnecessarySimpa false
open Go.RowKit

theorem strB_info : (Tryz.prog.info? 9).map (fun i => (i.zero, i.size, i.bytes)) = some (some (.string ByteArray.empty), 1, 16) := by kernel_rfl
def markTextsE (i k : Nat) : ByteArray := (bookName i k)
def markTextsL (i n : Nat) : List ByteArray := (List.range n).map fun j => markTextsE i j
theorem markTextsL_length (i n : Nat) : (markTextsL i n).length = n := by simp [markTextsL]
def mkTexts (i k : Nat) : List Value := [Value.string (markTextsE i k)]
theorem mkTexts_length (i : Nat) : ∀ k, (mkTexts i k).length = 1 := fun _ => rfl
theorem mkTexts_one (i fr n : Nat) : ∀ u ∈ mkF (mkTexts i) fr n, u.oneCell' = true := mkF_one (fun _ => by simp [mkTexts, Value.oneCell']) fr n
theorem flat_markTexts (i n : Nat) : ((markTextsL i n).map Value.string) = mkF (mkTexts i) 0 n := by
  induction n with | zero => rfl | succ n ih => rw [mkF_succ, ← ih]; simp [markTextsL, List.range_succ, mkTexts]

set_option maxRecDepth 100000 in
set_option maxHeartbeats 1600000 in
theorem markTexts_any (i fr n : Nat) (w : World) (hi : i ≤ 1000) (hf : fr ≤ 100000) (hn : n ≤ 100000) :
    Calls Tryz.prog 76 #[.int .i64 i, .int .i64 fr, .int .i64 n] w (FreshRet w 9 1 n (mkF (mkTexts i) fr n)) := by
  obtain ⟨i0, hi0, hz0, hz1, hz2⟩ := info_parts strB_info
  go_enter Tryz.func76, Tryz.ntmps76
  go_wp2_with fail
  go_loopg [7, 8] n (fun gk v k wr => ∃ j : Nat, j + gk = n ∧ k = .int .i64 ((fr + j : Nat) : Int) ∧ Fresh w wr 9 1 j v (mkF (mkTexts i) fr j))
  case atStart => exact ⟨0, by omega, rfl, Fresh.nil (Kept.refl _ _)⟩
  case round =>
    obtain ⟨j, hj, rfl, hfr⟩ := hrel
    by_cases hlt : j < n
    · have NX := Lib.hid (mkF_succ (mkTexts i) fr j)
      have HFR := Lib.hid hfr
      obtain ⟨aov, cav, rfl, _⟩ := (Rd.of_sl hfr.1).shape
      obtain ⟨y, hy⟩ : ∃ y, y = fr + j := ⟨_, rfl⟩
      have NAME := Lib.hid (fun (W : World) => bookName_any i (fr + j) W hi (by omega))
      obtain ⟨s, hs⟩ : ∃ s, s = bookName i (fr + j) := ⟨_, rfl⟩
      rw [← hs] at NAME
      have HS := Lib.hid hs
      have hone : ∀ u ∈ ([.string s] : List Value), u.oneCell' = true := by simp [Value.oneCell']
      have b1 : j + 1 ≤ maxLen := by unfold maxLen; omega
      have b2 : (j + 1) * 16 ≤ 140737488355328 := by omega
      clear hfr hs hy
      go_wp2_with fail
      go_at_call 86
      refine (NAME.out _).mono ?_
      rintro e w2 ⟨rfl, hk2⟩
      have HSL := Lib.hid (HFR.out.1.kept hk2 (fun _ _ h => h))
      have APP := Lib.hid (fun (W w5 : World) (g off cap : Nat) (hk : Kept (fun _ => False) w2 W) h1 h2 h3 => Fresh.push (g := g) (off := off) (cap := cap) (w2 := w5) (ys := mkF (mkTexts i) fr j ++ [.string s]) (⟨(HSL.out).kept hk (fun _ _ h => h), (HFR.out.2.1.trans hk2 (fun _ _ h => h)).trans hk (fun _ _ h => h), HFR.out.2.2⟩ : Fresh w W 9 1 j (.slice aov j cav) (mkF (mkTexts i) fr j)) h1 h2 h3)
      clear hk2
      go_wp2_with (at_builtin; refine wpList_append_sl _ rfl (.tmp 17) (.tmp 21) 47 rfl 9 i0 _ 1 16 Tryz.underlying47 hi0 hz0 hz1 hz2 rfl (by decide) _ j (mkF (mkTexts i) fr j) rfl (HSL.out.alloc _) ⟨w2.heap.size, 0, none⟩ 1 1 [.string s] rfl rfl (cells_new _ _ _ _) hone (by omega) b1 b2 ?_; intro g4 off4 cap w5 h1 h2 h3; have FIN := Lib.hid (APP.out _ w5 g4 off4 cap ((Kept.refl (fun _ => False) w2).alloc _) h1 h2 h3); clear h1 h2 h3)
      go_roundg (gk - 1)
      case measure => omega
      case rel => exact ⟨j + 1, by omega, by go_num, by rw [NX.out]; have := FIN.out; rw [HS.out] at this; exact this⟩
    · obtain rfl : n = j := by omega
      go_wp2_with fail
      go_ret
      exact ⟨_, rfl, hfr⟩

set_option maxRecDepth 100000 in
set_option maxHeartbeats 1600000 in
theorem copyTexts_any (v : Value) (l : List ByteArray) (w : World) (h : Rd w 1 l.length v ((l).map Value.string)) (hn : l.length ≤ 100000) :
    Calls Tryz.prog 26 #[v] w (FreshRet w 9 1 l.length ((l).map Value.string)) := by
  obtain ⟨i0, hi0, hz0, hz1, hz2⟩ := info_parts strB_info
  obtain ⟨ao, ca, rfl, hca⟩ := h.shape
  by_cases h0 : l.length = 0
  · obtain rfl : l = [] := List.eq_nil_of_length_eq_zero h0
    simp only [List.length_nil] at hca ⊢
    clear h hn h0
    rcases ao with _ | a
    all_goals
      go_enter Tryz.func26, Tryz.ntmps26
      go_wp2_with fail
      go_ret
      exact ⟨_, rfl, Fresh.nil (Kept.refl _ _)⟩
  · obtain ⟨_, _, hc⟩ := h.at
    have hfl : ((l).map Value.string).length = l.length * 1 := (by simp)
    obtain ⟨g, off, rfl⟩ : ∃ g off, ao = some ⟨g, off, none⟩ := by
      have hl : 0 < ((l).map Value.string).length := by rw [hfl]; omega
      obtain ⟨g, off, e, _⟩ := hc 0 _ (List.getElem?_eq_getElem hl)
      exact ⟨g, off, e⟩
    have hcell : ∀ (j : Nat) (u : Value), ((l).map Value.string)[j]? = some u → w.cell? ((⟨g, off, none⟩ : Addr).add j) = some u := fun j u hu => by
      obtain ⟨g', off', e, h1⟩ := hc j u hu
      injection e with e
      injection e with e1 e2
      subst e1 e2
      rw [Addr.add_lit]
      exact h1
    have HC := Lib.hid hcell
    have H1 := Lib.hid (show ∀ u ∈ ((l).map Value.string), u.oneCell' = true from fun u hu => by obtain ⟨x, _, rfl⟩ := List.mem_map.1 hu; rfl)
    have b1 : 0 + l.length ≤ maxLen := by unfold maxLen; omega
    have b2 : (0 + l.length) * 16 ≤ 140737488355328 := by omega
    have FR := Lib.hid (Fresh.nil (E := 9) (size := 1) (Kept.refl (fun _ => False) w))
    generalize ((l).map Value.string) = xs at *
    generalize l.length = n at *
    clear h hc hcell
    go_enter Tryz.func26, Tryz.ntmps26
    go_wp2_with (at_builtin; refine wpList_append_sl _ rfl (.const (.slice none 0 0)) (.tmp 3) 47 rfl 9 i0 _ 1 16 Tryz.underlying47 hi0 hz0 hz1 hz2 rfl (by decide) (.slice none 0 0) 0 [] rfl (Sl.nil _ _ _) ⟨g, off, none⟩ n ca xs rfl hfl HC.out H1.out (by omega) b1 b2 ?_; intro g4 off4 cap w5 h1 h2 h3; have F1 := Lib.hid h1; have F2 := Lib.hid h2; have F3 := Lib.hid h3; clear h1 h2 h3)
    go_ret
    refine ⟨_, rfl, ?_, F2.out.mono (fun i _ e => by cases e), .inr ⟨g4, off4, cap, ?_, ?_⟩⟩
    · have := F1.out
      simpa using this
    · simp
    · exact F3.out.elim (fun e => by cases e) (fun e => e)
end Go.Proofs.YtgfpcjieonniiaaGreat
