/-
  The Book's texts: grow: each list grown, one mark at a time and then by many.
-/
import Derived.Test.YtgfpcjieonniiaaGreatBkTextsC
namespace Go.Proofs.YtgfpcjieonniiaaGreat
set_option linter.unusedVariables false
set_option linter.unusedSimpArgs false
set_option linter.unnecessarySimpa false
open Go.RowKit

theorem listsTexts_info : (Tryz.prog.info? 47).map (fun i => (i.zero, i.size, i.bytes)) = some (some (.slice none 0 0), 1, 24) := by kernel_rfl
set_option maxRecDepth 100000 in
set_option maxHeartbeats 4000000 in
theorem growTexts_any (b : Nat) (F : Nat → Prop) (N : Nat) (V : Value) (vs : List Value) (len : Nat → Nat) (w : World) (h6 : w.cell? ⟨b, 0, none⟩ = some V) (hb : ¬ F b)
    (h : Kd w 47 9 1 F N V vs len (fun j => mkF (mkTexts j) 0 (len j))) (hn : N ≤ 1000) (hl : ∀ i, i < N → len i ≤ 90000) :
    Calls Tryz.prog 47 #[.pointer (some ⟨b, 0, none⟩)] w fun e w' => ∃ out os, e = .returned out ∧ Gr w w' 47 9 1 F N V vs len mkTexts 72 N out os := by
  obtain ⟨i0, hi0, hz0, hz1, hz2⟩ := info_parts strB_info
  obtain ⟨j0, hj0, kz0, kz1, kz2⟩ := info_parts listsTexts_info
  obtain ⟨aoV, caV, rfl, _⟩ := (Rd.of_sl h.row).shape
  have HB := Lib.hid hb
  have HZ := Lib.hid hl
  have HD := Lib.hid h
  have H6 := Lib.hid h6
  clear h hb hl
  go_enter Tryz.func47, Tryz.ntmps47
  go_wp2_with fail
  go_loopg [3, 4] N (fun gk o k wr => ∃ i : Nat, i + gk = N ∧ k = .int .i64 (i : Int) ∧ ∃ os, Gr w wr 47 9 1 F N (.slice aoV N caV) vs len mkTexts 72 i o os)
  case atStart => exact ⟨0, by omega, rfl, _, Gr.start HD.out⟩
  case round =>
    obtain ⟨i, hi, rfl, os, hgr⟩ := hrel
    have x6 : wr.cell? ⟨b, 0, none⟩ = some (.slice aoV N caV) := (hgr.kept.cell (p := ⟨b, 0, none⟩) (World.block_lt_of_cell? w ⟨b, 0, none⟩ H6.out) HB.out).trans H6.out
    have HG := Lib.hid hgr
    obtain ⟨aoO, caO, rfl, _⟩ := (Rd.of_sl hgr.orow).shape
    clear h6
    by_cases hlt : i < N
    · obtain ⟨g, off, cap, a, m, hV, x0, hv, hs⟩ := hgr.at i hlt
      injection hV with hV1 hV2 hV3
      subst hV1 hV3
      have hz := HZ.out i hlt
      have STEP := Lib.hid (fun (wn w5 w6 : World) (lv : Value) (g' off' cap' : Nat) (hg : Gi wr wn 9 1 (mkTexts i) (.slice a (len i) m) lv (len i) 72) h1 h2 h3 h4 => hgr.step hlt hv hg (w5 := w5) h1 (w6 := w6) (g := g') (off := off') (cap := cap') h2 h3 h4)
      have OUT := Lib.hid (fun (wn : World) (lv : Value) (n j : Nat) (hg : Gi wr wn 9 1 (mkTexts i) (.slice a (len i) m) lv n j) => hgr.out_at hlt hv hg)
      obtain ⟨z, hzz⟩ : ∃ z, z = len i := ⟨_, rfl⟩
      rw [← hzz] at x0 hv hs hz STEP OUT
      have GI := Lib.hid (Gi.start hs)
      have HV := Lib.hid hv
      have HZZ := Lib.hid hzz
      clear hgr hv hs hzz
      go_wp2_with fail
      go_loopg [5, 6] 12 (fun gj lv k wn => ∃ j : Nat, j + gj = 12 ∧ k = .int .i64 (j : Int) ∧ Gi wr wn 9 1 (mkTexts i) (.slice a z m) lv z j)
      case atStart => exact ⟨0, by omega, rfl, GI.out⟩
      case round =>
        obtain ⟨j, hj, rfl, hgi⟩ := hrel
        obtain ⟨y, hy⟩ : ∃ y, y = z + j := ⟨_, rfl⟩
        have hcur := hgi.cur
        rw [← hy] at hcur
        obtain ⟨aol, cal, rfl, _⟩ := (Rd.of_sl hcur).shape
        have HGI := Lib.hid hgi
        by_cases hlt2 : j < 12
        · have PUSH := Lib.hid (fun (wm w5 : World) (g' off' cap' : Nat) (hk : Kept (fun _ => False) wr wm) h1 h2 h3 => (hgi.keep hk).push (mkTexts_length i) (m := 1) (w' := w5) (g := g') (off := off') (cap := cap') h1 h2 h3)
          rw [← hy] at PUSH
          have hyb : y ≤ 90012 := by omega
          clear hy
          have HC := Lib.hid hcur
          have b1 : y + 1 ≤ maxLen := by unfold maxLen; omega
          have b2 : (y + 1) * 16 ≤ 140737488355328 := by omega
          clear hgi hcur x6 x0
          go_wp2_with fail
          go_at_call 76
          refine (markTexts_any i y 1 _ (by omega) (by omega) (by omega)).mono ?_
          rintro e wm ⟨u, rfl, hfr⟩
          obtain ⟨gu, ou, cu, rfl, hgu⟩ : ∃ gu ou cu, u = .slice (some ⟨gu, ou, none⟩) 1 cu ∧ wr.heap.size ≤ gu := by
            rcases hfr.2.2 with ⟨_, h0⟩ | h
            · omega
            · exact h
          have hnl := Lib.hid hfr.1.1
          have hncell := Lib.hid (hfr.1.cell rfl)
          have hsl := Lib.hid (HC.out.kept hfr.2.1 (fun _ _ h => h))
          have KF := Lib.hid hfr.2.1
          clear hfr hgu
          go_wp2_with (at_builtin; refine wpList_append_sl2 _ rfl (.tmp 27) (.tmp 31) 47 rfl 9 i0 _ 1 16 Tryz.underlying47 hi0 hz0 hz1 hz2 rfl (by decide) _ y _ rfl hsl.out ⟨gu, ou, none⟩ 1 cu _ rfl hnl.out hncell.out (mkTexts_one i y 1) (by omega) b1 b2 ?_; intro g4 off4 cap4 w5 h1 h2 h3; have FIN := Lib.hid (PUSH.out _ w5 g4 off4 cap4 KF.out h1 h2 h3); clear h1 h2 h3)
          go_roundg (gk - 1)
          case measure => omega
          case rel => exact ⟨j + 1, by omega, by go_num, FIN.out⟩
        · obtain rfl : j = 12 := by omega
          have PUSH := Lib.hid (fun (wm w5 : World) (g' off' cap' : Nat) (hk : Kept (fun _ => False) wr wm) h1 h2 h3 => (hgi.keep hk).push (mkTexts_length i) (m := 60) (w' := w5) (g := g') (off := off') (cap := cap') h1 h2 h3)
          have DONE := Lib.hid (HGI.out.kept)
          rw [← hy] at PUSH
          have hyb : y ≤ 90012 := by omega
          clear hy
          have HC := Lib.hid hcur
          have b3 : i + 1 ≤ maxLen := by unfold maxLen; omega
          have b4 : (i + 1) * 24 ≤ 140737488355328 := by omega
          have b1 : y + 60 ≤ maxLen := by unfold maxLen; omega
          have b2 : (y + 60) * 16 ≤ 140737488355328 := by omega
          clear hgi hcur x6 x0
          go_wp2_with fail
          go_at_call 76
          refine (markTexts_any i y 60 _ (by omega) (by omega) (by omega)).mono ?_
          rintro e wm ⟨u, rfl, hfr⟩
          obtain ⟨gu, ou, cu, rfl, hgu⟩ : ∃ gu ou cu, u = .slice (some ⟨gu, ou, none⟩) 60 cu ∧ wr.heap.size ≤ gu := by
            rcases hfr.2.2 with ⟨_, h0⟩ | h
            · omega
            · exact h
          have hnl := Lib.hid hfr.1.1
          have hncell := Lib.hid (hfr.1.cell rfl)
          have hsl := Lib.hid (HC.out.kept hfr.2.1 (fun _ _ h => h))
          have KF := Lib.hid hfr.2.1
          clear hfr hgu
          go_wp2_with (at_builtin; first
            | (refine wpList_append_sl2 _ rfl (.tmp 34) (.tmp 38) 47 rfl 9 i0 _ 1 16 Tryz.underlying47 hi0 hz0 hz1 hz2 rfl (by decide) _ y _ rfl hsl.out ⟨gu, ou, none⟩ 60 cu _ rfl hnl.out hncell.out (mkTexts_one i y 60) (by omega) b1 b2 ?_; intro g4 off4 cap4 w5 h1 h2 h3; have FIN := Lib.hid (PUSH.out _ w5 g4 off4 cap4 KF.out h1 h2 h3); clear h1 h2 h3)
            | (refine wpList_append_sl2 _ rfl (.tmp 33) (.tmp 40) 37 rfl 47 j0 _ 1 24 Tryz.underlying37 hj0 kz0 kz1 kz2 rfl (by decide) _ i os rfl ((OUT.out _ _ _ _ FIN.out).alloc _) ⟨w5.heap.size, 0, none⟩ 1 1 [.slice (some ⟨g4, off4, none⟩) (y + 60) cap4] rfl rfl (cells_new _ _ _ _) (by simp [Value.oneCell']) (by omega) b3 b4 ?_; intro g6 off6 cap6 w6 h1 h2 h3; have END := Lib.hid (STEP.out _ _ w6 _ g6 off6 cap6 FIN.out ((Kept.refl (fun _ => False) w5).alloc _) h1 h2 h3); clear h1 h2 h3))
          go_roundg (N - i - 1)
          case measure => omega
          case rel => exact ⟨i + 1, by omega, by go_num, _, END.out⟩
    · obtain rfl : i = N := by omega
      go_wp2_with fail
      go_ret
      exact ⟨_, _, rfl, HG.out⟩
end Go.Proofs.YtgfpcjieonniiaaGreat
