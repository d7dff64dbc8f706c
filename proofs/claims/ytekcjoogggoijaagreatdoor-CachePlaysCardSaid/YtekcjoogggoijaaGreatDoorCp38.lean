/-
  The Book's items: one more list and its copy.
-/
import Derived.Test.YtekcjoogggoijaaGreatDoorCp37
import Derived.Deep.RegionLaw
set_option linter.unusedVariables false
set_option linter.unusedSimpArgs false
set_option linter.unnecessarySimpa false
namespace Go.Proofs.YtekcjoogggoijaaGreatDoor
open Go.RowKit

set_option maxRecDepth 100000 in
set_option maxHeartbeats 4000000 in
theorem putItems_any (b : Nat) (F : Nat → Prop) (N : Nat) (V : Value) (vs : List Value) (len : Nat → Nat) (con : Nat → List Value) (w : World) (h6 : w.cell? ⟨b, 8, none⟩ = some V) (hb : ¬ F b)
    (h : Kd w 45 44 4 F N V vs len con) (hn : N ≤ 1000) (hl : ∀ i, i < N → len i ≤ 100000) :
    Calls Tryz.prog 58 #[.pointer (some ⟨b, 0, none⟩)] w fun e w' => e = .returned (.tuple #[]) ∧ Kd w' 45 44 4 F N V vs len (fun j => mkF (mkItems j) 0 (len j)) ∧ Kept F w w' := by
  obtain ⟨aoV, caV, rfl, _⟩ := (Rd.of_sl h.row).shape
  have HB := Lib.hid hb
  have HZ := Lib.hid hl
  have HD := Lib.hid h
  have H6 := Lib.hid h6
  clear h hb hl
  go_enter Tryz.func58, Tryz.ntmps58
  go_wp2_with fail
  go_loopg [2] N (fun gk k wr => ∃ i : Nat, i + gk = N ∧ k = .int .i64 (i : Int) ∧ Kd wr 45 44 4 F N (.slice aoV N caV) vs len (fun j => if j < i then mkF (mkItems j) 0 (len j) else con j) ∧ Kept F w wr)
  case atStart => exact ⟨0, by omega, rfl, HD.out.congr (fun i hi => ⟨rfl, by simp⟩), Kept.refl _ _⟩
  case round =>
    obtain ⟨i, hi, rfl, hkd, hk⟩ := hrel
    have x6 : wr.cell? ⟨b, 8, none⟩ = some (.slice aoV N caV) := (hk.cell (p := ⟨b, 8, none⟩) (World.block_lt_of_cell? w ⟨b, 8, none⟩ H6.out) HB.out).trans H6.out
    have HK := Lib.hid hk
    have HKD := Lib.hid hkd
    clear hk h6
    by_cases hlt : i < N
    · obtain ⟨g, off, cap, a, m, hV, x0, hv, hs⟩ := hkd.at i hlt
      injection hV with hV1 hV2 hV3
      subst hV1 hV3
      have hz := HZ.out i hlt
      obtain ⟨z, hzz⟩ : ∃ z, z = len i := ⟨_, rfl⟩
      rw [← hzz] at x0 hv hs hz
      have HV := Lib.hid hv
      have HS := Lib.hid hs
      have HZZ := Lib.hid hzz
      clear hkd hv hs hzz
      go_wp2_with fail
      go_at_call 99
      refine (markItems_any i 0 z _ (by omega) (by omega) hz).mono ?_
      rintro e w2 ⟨u, rfl, hfr⟩
      have HFR := Lib.hid hfr
      obtain ⟨aou, cau, rfl, _⟩ := (Rd.of_sl hfr.1).shape
      clear hfr
      have hstart : Sl w2 44 4 z (.slice a z m) (mkF (mkItems i) 0 0 ++ (if i < i then mkF (mkItems i) 0 (len i) else con i).drop (0 * 4)) := by
        rw [mkF_zero]
        simpa using HS.out.kept HFR.out.2.1 (fun _ _ h => h)
      have HST := Lib.hid hstart
      have X6 := Lib.hid (HFR.out.2.1.cell0 x6)
      have X0 := Lib.hid (HFR.out.2.1.cell0 x0)
      have hown : ∀ k, (Value.slice a z m).ownBlock = some k → k ≠ b ∧ k ≠ g ∧ (Value.slice aou z cau).ownBlock ≠ some k := fun k hk => by
        obtain ⟨v', hv', hs', ho⟩ := HKD.out.item i hlt
        rw [HV.out] at hv'
        injection hv' with hv'
        subst hv'
        refine ⟨fun e => HB.out (e ▸ (ho k hk).1), fun e => (ho k hk).2 (e ▸ rfl), fun e => ?_⟩
        have := hs'.lt hk
        rcases HFR.out.2.2 with ⟨e1, _⟩ | ⟨g', off', cap', e1, e2⟩
        · rw [e1] at e; cases e
        · rw [e1] at e
          simp [Value.ownBlock] at e
          omega
      have OWN := Lib.hid hown
      clear hstart x0 x6 hown
      go_wp2_with fail
      go_loopg [4] z (fun gj k wn => ∃ j : Nat, j + gj = z ∧ k = .int .i64 (j : Int) ∧ Sl wn 44 4 z (.slice a z m) (mkF (mkItems i) 0 j ++ (if i < i then mkF (mkItems i) 0 (len i) else con i).drop (j * 4)) ∧ Kept (fun k => (Value.slice a z m).ownBlock = some k) w2 wn)
      case atStart => exact ⟨0, by omega, rfl, HST.out, Kept.refl _ _⟩
      case round =>
        obtain ⟨j, hj, rfl, hsl, hkn⟩ := hrel
        have HJ := Lib.hid hsl
        have HN := Lib.hid hkn
        clear hkn
        by_cases hjz : j < z
        · obtain ⟨ga, oa, rfl⟩ : ∃ ga oa, a = some ⟨ga, oa, none⟩ := by
            rcases hsl.form with ⟨_, h0, _⟩ | ⟨g', off', cap', e, _, e2⟩
            · omega
            · injection e with e1
              exact ⟨g', off', e1⟩
          obtain ⟨gu, ou, rfl⟩ : ∃ gu ou, aou = some ⟨gu, ou, none⟩ := by
            rcases HFR.out.1.form with ⟨_, h0, _⟩ | ⟨g', off', cap', e, _, e2⟩
            · omega
            · injection e with e1
              exact ⟨g', off', e1⟩
          obtain ⟨hab, hag, hau⟩ := OWN.out ga rfl
          have hau : ¬ ga = gu := fun e => hau (e ▸ rfl)
          have KN : Kept (fun k => ga = k) w2 wr := HN.out.mono (fun k _ h => by simpa [Value.ownBlock] using h)
          have x6 := (KN.cell (p := ⟨b, 8, none⟩) (World.block_lt_of_cell? w2 ⟨b, 8, none⟩ X6.out) hab).trans X6.out
          have x0 := (KN.cell (p := ⟨g, off + i, none⟩) (World.block_lt_of_cell? w2 ⟨g, off + i, none⟩ X0.out) hag).trans X0.out
          have hcell : ∀ t, t < 4 → ∀ y, (mkItems i j)[t]? = some y → wr.cell? ⟨gu, ou + (j * 4 + t), none⟩ = some y := fun t ht y hy => by
            have h1 := HFR.out.1.cellG (j * 4 + t) y (by rw [mkF_at (mkItems_length i) hjz ht]; exact hy)
            exact (KN.cell (p := ⟨gu, ou + (j * 4 + t), none⟩) (World.block_lt_of_cell? w2 ⟨gu, ou + (j * 4 + t), none⟩ h1) hau).trans h1
          have y0 := hcell 0 (by omega) _ rfl
          have y1 := hcell 1 (by omega) _ rfl
          have y2 := hcell 2 (by omega) _ rfl
          have y3 := hcell 3 (by omega) _ rfl
          have hxl := hsl.1
          have hcur : ∀ t, t < 4 → ∃ y, wr.cell? ⟨ga, oa + (j * 4 + t), none⟩ = some y := fun t ht => ⟨_, hsl.cellG (j * 4 + t) _ (List.getElem?_eq_getElem (by omega))⟩
          obtain ⟨c0, z0⟩ := hcur 0 (by omega)
          obtain ⟨c1, z1⟩ := hcur 1 (by omega)
          obtain ⟨c2, z2⟩ := hcur 2 (by omega)
          obtain ⟨c3, z3⟩ := hcur 3 (by omega)
          have f0 := hsl.thawG (oa + (j * 4))
          have f1 := hsl.thawG (oa + (j * 4 + 1))
          have f2 := hsl.thawG (oa + (j * 4 + 2))
          have f3 := hsl.thawG (oa + (j * 4 + 3))
          clear hcell hcur hxl hsl KN
          simp only [Nat.add_zero, Nat.mul_one, ← Nat.add_assoc] at y0 y1 y2 y3 z0 z1 z2 z3 f0 f1 f2 f3
          go_wp2_with fail
          go_region
          go_wp2_with fail
          go_roundg (gk - 1)
          case measure => omega
          case rel => exact ⟨j + 1, by omega, by go_num, (HJ.out.putOne (mkItems_length i) hjz).drew, (HN.out.setCells (g := ga) (fun _ => rfl) _ (mkItems i j)).drew⟩
        · obtain rfl : j = z := by omega
          obtain ⟨hd1, hd2⟩ := HKD.out.putDone mkItems_length hlt HV.out HZZ.out HFR.out.2.1 HN.out HJ.out
          go_wp2_with fail
          go_roundg (N - i - 1)
          case measure => omega
          case rel => exact ⟨i + 1, by omega, by go_num, hd1, hd2 _ HK.out⟩
    · go_wp2_with fail
      go_end0
      exact ⟨rfl, HKD.out.congr (fun j hj => ⟨rfl, by rw [if_pos (by omega)]⟩), HK.out⟩
end Go.Proofs.YtekcjoogggoijaaGreatDoor
namespace Go.Proofs.YtekcjoogggoijaaGreatDoor
open Go.RowKit

theorem listsItems_info : (Tryz.prog.info? 45).map (fun i => (i.zero, i.size, i.bytes)) = some (some (.slice none 0 0), 1, 24) := by kernel_rfl
set_option maxRecDepth 100000 in
set_option maxHeartbeats 4000000 in
theorem growItems_any (b : Nat) (F : Nat → Prop) (N : Nat) (V : Value) (vs : List Value) (len : Nat → Nat) (w : World) (h6 : w.cell? ⟨b, 8, none⟩ = some V) (hb : ¬ F b)
    (h : Kd w 45 44 4 F N V vs len (fun j => mkF (mkItems j) 0 (len j))) (hn : N ≤ 1000) (hl : ∀ i, i < N → len i ≤ 90000) :
    Calls Tryz.prog 64 #[.pointer (some ⟨b, 0, none⟩)] w fun e w' => ∃ out os, e = .returned out ∧ Gr w w' 45 44 4 F N V vs len mkItems 72 N out os := by
  obtain ⟨i0, hi0, hz0, hz1, hz2⟩ := info_parts itemB_info
  obtain ⟨j0, hj0, kz0, kz1, kz2⟩ := info_parts listsItems_info
  obtain ⟨aoV, caV, rfl, _⟩ := (Rd.of_sl h.row).shape
  have HB := Lib.hid hb
  have HZ := Lib.hid hl
  have HD := Lib.hid h
  have H6 := Lib.hid h6
  clear h hb hl
  go_enter Tryz.func64, Tryz.ntmps64
  go_wp2_with fail
  go_loopg [3, 4] N (fun gk o k wr => ∃ i : Nat, i + gk = N ∧ k = .int .i64 (i : Int) ∧ ∃ os, Gr w wr 45 44 4 F N (.slice aoV N caV) vs len mkItems 72 i o os)
  case atStart => exact ⟨0, by omega, rfl, _, Gr.start HD.out⟩
  case round =>
    obtain ⟨i, hi, rfl, os, hgr⟩ := hrel
    have x6 : wr.cell? ⟨b, 8, none⟩ = some (.slice aoV N caV) := (hgr.kept.cell (p := ⟨b, 8, none⟩) (World.block_lt_of_cell? w ⟨b, 8, none⟩ H6.out) HB.out).trans H6.out
    have HG := Lib.hid hgr
    obtain ⟨aoO, caO, rfl, _⟩ := (Rd.of_sl hgr.orow).shape
    clear h6
    by_cases hlt : i < N
    · obtain ⟨g, off, cap, a, m, hV, x0, hv, hs⟩ := hgr.at i hlt
      injection hV with hV1 hV2 hV3
      subst hV1 hV3
      have hz := HZ.out i hlt
      have STEP := Lib.hid (fun (wn w5 w6 : World) (lv : Value) (g' off' cap' : Nat) (hg : Gi wr wn 44 4 (mkItems i) (.slice a (len i) m) lv (len i) 72) h1 h2 h3 h4 => hgr.step hlt hv hg (w5 := w5) h1 (w6 := w6) (g := g') (off := off') (cap := cap') h2 h3 h4)
      have OUT := Lib.hid (fun (wn : World) (lv : Value) (n j : Nat) (hg : Gi wr wn 44 4 (mkItems i) (.slice a (len i) m) lv n j) => hgr.out_at hlt hv hg)
      obtain ⟨z, hzz⟩ : ∃ z, z = len i := ⟨_, rfl⟩
      rw [← hzz] at x0 hv hs hz STEP OUT
      have GI := Lib.hid (Gi.start hs)
      have HV := Lib.hid hv
      have HZZ := Lib.hid hzz
      clear hgr hv hs hzz
      go_wp2_with fail
      go_loopg [5, 6] 12 (fun gj lv k wn => ∃ j : Nat, j + gj = 12 ∧ k = .int .i64 (j : Int) ∧ Gi wr wn 44 4 (mkItems i) (.slice a z m) lv z j)
      case atStart => exact ⟨0, by omega, rfl, GI.out⟩
      case round =>
        obtain ⟨j, hj, rfl, hgi⟩ := hrel
        obtain ⟨y, hy⟩ : ∃ y, y = z + j := ⟨_, rfl⟩
        have hcur := hgi.cur
        rw [← hy] at hcur
        obtain ⟨aol, cal, rfl, _⟩ := (Rd.of_sl hcur).shape
        have HGI := Lib.hid hgi
        by_cases hlt2 : j < 12
        · have PUSH := Lib.hid (fun (wm w5 : World) (g' off' cap' : Nat) (hk : Kept (fun _ => False) wr wm) h1 h2 h3 => (hgi.keep hk).push (mkItems_length i) (m := 1) (w' := w5) (g := g') (off := off') (cap := cap') h1 h2 h3)
          rw [← hy] at PUSH
          have hyb : y ≤ 90012 := by omega
          clear hy
          have HC := Lib.hid hcur
          have b1 : y + 1 ≤ maxLen := by unfold maxLen; omega
          have b2 : (y + 1) * 48 ≤ 140737488355328 := by omega
          clear hgi hcur x6 x0
          go_wp2_with fail
          go_at_call 99
          refine (markItems_any i y 1 _ (by omega) (by omega) (by omega)).mono ?_
          rintro e wm ⟨u, rfl, hfr⟩
          obtain ⟨gu, ou, cu, rfl, hgu⟩ : ∃ gu ou cu, u = .slice (some ⟨gu, ou, none⟩) 1 cu ∧ wr.heap.size ≤ gu := by
            rcases hfr.2.2 with ⟨_, h0⟩ | h
            · omega
            · exact h
          have hnl := Lib.hid hfr.1.1
          have hncell := Lib.hid (hfr.1.cell rfl)
          have hsl := Lib.hid (HC.out.kept hfr.2.1 (fun _ _ h => h))
          have KF := Lib.hid hfr.2.1
          clear hfr hgu
          go_wp2_with (at_builtin; refine wpList_append_sl2 _ rfl (.tmp 27) (.tmp 31) 45 rfl 44 i0 _ 4 48 Tryz.underlying45 hi0 hz0 hz1 hz2 rfl (by decide) _ y _ rfl hsl.out ⟨gu, ou, none⟩ 1 cu _ rfl hnl.out hncell.out (mkItems_one i y 1) (by omega) b1 b2 ?_; intro g4 off4 cap4 w5 h1 h2 h3; have FIN := Lib.hid (PUSH.out _ w5 g4 off4 cap4 KF.out h1 h2 h3); clear h1 h2 h3)
          go_roundg (gk - 1)
          case measure => omega
          case rel => exact ⟨j + 1, by omega, by go_num, FIN.out⟩
        · obtain rfl : j = 12 := by omega
          have PUSH := Lib.hid (fun (wm w5 : World) (g' off' cap' : Nat) (hk : Kept (fun _ => False) wr wm) h1 h2 h3 => (hgi.keep hk).push (mkItems_length i) (m := 60) (w' := w5) (g := g') (off := off') (cap := cap') h1 h2 h3)
          have DONE := Lib.hid (HGI.out.kept)
          rw [← hy] at PUSH
          have hyb : y ≤ 90012 := by omega
          clear hy
          have HC := Lib.hid hcur
          have b3 : i + 1 ≤ maxLen := by unfold maxLen; omega
          have b4 : (i + 1) * 24 ≤ 140737488355328 := by omega
          have b1 : y + 60 ≤ maxLen := by unfold maxLen; omega
          have b2 : (y + 60) * 48 ≤ 140737488355328 := by omega
          clear hgi hcur x6 x0
          go_wp2_with fail
          go_at_call 99
          refine (markItems_any i y 60 _ (by omega) (by omega) (by omega)).mono ?_
          rintro e wm ⟨u, rfl, hfr⟩
          obtain ⟨gu, ou, cu, rfl, hgu⟩ : ∃ gu ou cu, u = .slice (some ⟨gu, ou, none⟩) 60 cu ∧ wr.heap.size ≤ gu := by
            rcases hfr.2.2 with ⟨_, h0⟩ | h
            · omega
            · exact h
          have hnl := Lib.hid hfr.1.1
          have hncell := Lib.hid (hfr.1.cell rfl)
          have hsl := Lib.hid (HC.out.kept hfr.2.1 (fun _ _ h => h))
          have KF := Lib.hid hfr.2.1
          clear hfr hgu
          go_wp2_with (at_builtin; first
            | (refine wpList_append_sl2 _ rfl (.tmp 34) (.tmp 38) 45 rfl 44 i0 _ 4 48 Tryz.underlying45 hi0 hz0 hz1 hz2 rfl (by decide) _ y _ rfl hsl.out ⟨gu, ou, none⟩ 60 cu _ rfl hnl.out hncell.out (mkItems_one i y 60) (by omega) b1 b2 ?_; intro g4 off4 cap4 w5 h1 h2 h3; have FIN := Lib.hid (PUSH.out _ w5 g4 off4 cap4 KF.out h1 h2 h3); clear h1 h2 h3)
            | (refine wpList_append_sl2 _ rfl (.tmp 33) (.tmp 40) 33 rfl 45 j0 _ 1 24 Tryz.underlying33 hj0 kz0 kz1 kz2 rfl (by decide) _ i os rfl ((OUT.out _ _ _ _ FIN.out).alloc _) ⟨w5.heap.size, 0, none⟩ 1 1 [.slice (some ⟨g4, off4, none⟩) (y + 60) cap4] rfl rfl (cells_new _ _ _ _) (by simp [Value.oneCell']) (by omega) b3 b4 ?_; intro g6 off6 cap6 w6 h1 h2 h3; have END := Lib.hid (STEP.out _ _ w6 _ g6 off6 cap6 FIN.out ((Kept.refl (fun _ => False) w5).alloc _) h1 h2 h3); clear h1 h2 h3))
          go_roundg (N - i - 1)
          case measure => omega
          case rel => exact ⟨i + 1, by omega, by go_num, _, END.out⟩
    · obtain rfl : i = N := by omega
      go_wp2_with fail
      go_ret
      exact ⟨_, _, rfl, HG.out⟩
end Go.Proofs.YtekcjoogggoijaaGreatDoor
namespace Go.Proofs.YtekcjoogggoijaaGreatDoor
open Go.RowKit

set_option maxRecDepth 100000 in
set_option maxHeartbeats 4000000 in
theorem keepItems_any (b : Nat) (arr : Array Value) (F1 F2 : Nat → Prop) (N : Nat) (V C : Value) (vs cs : List Value) (len : Nat → Nat) (con : Nat → List Value) (u : Value) (l : List It) (w : World) (h : Kb w 45 44 4 F1 F2 N V C vs cs len con) (hb : w.heap[b]? = some (.cells arr 37 (0, 0)))
    (ha6 : arr[8]? = some V) (ha7 : arr[9]? = some C) (hF1 : ¬ F1 b) (hF2 : ¬ F2 b) (hu : Sl w 44 4 l.length u (flat (l))) (hf : ∀ k, u.ownBlock = some k → ¬ F1 k ∧ ¬ F2 k ∧ k ≠ b) (hn : N < 250) (hl : l.length ≤ 100000) :
    Calls Tryz.prog 13 #[.pointer (some ⟨b, 0, none⟩), u] w fun e w' => e = .returned (.tuple #[]) ∧ KeptOne w w' 45 44 4 37 b arr 8 9 F1 F2 N u l.length (flat (l)) len con := by
  obtain ⟨j0, hj0, kz0, kz1, kz2⟩ := info_parts listsItems_info
  obtain ⟨aoV, caV, rfl, _⟩ := (Rd.of_sl h.v.row).shape
  obtain ⟨aoC, caC, rfl, _⟩ := (Rd.of_sl h.c.row).shape
  obtain ⟨aou, cau, rfl, _⟩ := (Rd.of_sl hu).shape
  have x6 := (cell_at hb 8).trans ha6
  have x7 := (cell_at hb 9).trans ha7
  have f6 := frozen_at hb 8
  have HV := Lib.hid h.v.row
  have ONE := Lib.hid (fun (wa wb : World) (g off cap : Nat) (hk : Kept (fun _ => False) w wa) h1 h2 h3 (w4 wc wd : World) (x : Value) hx (hk4 : Kept (fun _ => False) w4 wc) (g' off' cap' : Nat) k1 k2 k3 => Kb.one h hb hF1 hF2 hu hf hk (wb := wb) (g := g) (off := off) (cap := cap) (o1 := 8) (o2 := 9) h1 h2 h3 (fun _ => trivial) (x := x) hx hk4 (wd := wd) (g' := g') (off' := off') (cap' := cap') k1 k2 k3)
  have HALF := Lib.hid (fun (wa wb : World) (g off cap : Nat) (hk : Kept (fun _ => False) w wa) h1 h2 h3 => h.v.keep hb hF1 hu (fun k hk => ⟨(hf k hk).1, (hf k hk).2.2⟩) hk (w2 := wb) (g := g) (off := off) (cap := cap) h1 h2 h3 8)
  have hUk : ∀ w3 : World, Kept (fun k => k = b ∨ F1 k) w w3 → Rd w3 4 l.length (.slice aou l.length cau) (flat (l)) ∧ Sl w3 45 1 N (.slice aoC N caC) cs := fun w3 hk => ⟨(Rd.of_sl hu).kept hk (fun k hk hh => hh.elim (hf k hk).2.2 (hf k hk).1), h.c.row.kept hk (fun k hk hh => by
    have hkF := h.c.rowF k hk
    rcases hh with rfl | hh
    · exact hF2 hkF
    · exact h.dis k hh hkF)⟩
  have UK := Lib.hid hUk
  have HA7 := Lib.hid (show ∀ v, (arr.setIfInBounds 8 v)[9]? = some (.slice aoC N caC) from fun v => by rw [Array.getElem?_setIfInBounds_ne (by omega)]; exact ha7)
  have HB6 := Lib.hid (fun (wa wb : World) (hk : Kept (fun _ => False) w wa) (h2 : Kept (fun k => (Value.slice aoV N caV).ownBlock = some k) wa wb) => show wb.heap[b]? = some (.cells arr 37 (0, 0)) from (h2.block b (Nat.lt_of_lt_of_le (lt_of_block hb) hk.size) (fun e => hF1 (h.v.rowF b e))).trans ((hk.block b (lt_of_block hb) (fun e => e)).trans hb))
  have HA6 := Lib.hid ha6
  have HCB := Lib.hid (show (Value.slice aoC N caC).ownBlock ≠ some b from fun e => hF2 (h.c.rowF b e))
  clear hUk h hb ha6 ha7 hF1 hF2 hu hf
  have b1 : N + 1 ≤ maxLen := by unfold maxLen; omega
  have b2 : (N + 1) * 24 ≤ 140737488355328 := by omega
  go_enter Tryz.func13, Tryz.ntmps13
  go_wp2_with (at_builtin; refine wpList_append_sl2 _ rfl (.tmp 14) (.tmp 16) 33 rfl 45 j0 _ 1 24 Tryz.underlying33 hj0 kz0 kz1 kz2 rfl (by decide) _ N vs rfl (HV.out.alloc _) ⟨w.heap.size, 0, none⟩ 1 1 [.slice aou l.length cau] rfl rfl (cells_new _ _ _ _) (by simp [Value.oneCell']) (by omega) b1 b2 ?_; intro g6 off6 cap6 w6 h1 h2 h3; have hb6 := HB6.out _ w6 ((Kept.refl (fun _ => False) w).alloc _) h2; have y6 := (cell_at hb6 8).trans HA6.out; have f6' := frozen_at hb6 8; have HH := Lib.hid (HALF.out _ w6 g6 off6 cap6 ((Kept.refl (fun _ => False) w).alloc _) h1 h2 h3); have ONE2 := Lib.hid (ONE.out _ w6 g6 off6 cap6 ((Kept.refl (fun _ => False) w).alloc _) h1 h2 h3); clear h1 h2 h3 hb6 x6 x7 f6)
  obtain ⟨G1, a1, a2, a3, a4, a5⟩ := HH.out
  have uk := UK.out _ a4
  clear HH ONE HALF a1 a3 a4 a5 y6 f6' UK HB6
  generalize w6.setCell ⟨b, 8, none⟩ (.slice (some ⟨g6, off6, none⟩) (N + 1) cap6) = w3 at *
  have x7 := (cell_at a2 9).trans (HA7.out _)
  have hrd := Lib.hid uk.1
  have COPY := Lib.hid (fun (W : World) (hk : Kept (fun _ => False) w3 W) => copyItems_any (.slice aou l.length cau) l W (uk.1.kept hk (fun _ _ h => h)) hl)
  have HC := Lib.hid uk.2
  have HB := Lib.hid a2
  clear uk a2
  have HB7 := Lib.hid (fun (wc wd : World) (hk : Kept (fun _ => False) w3 wc) (h2 : Kept (fun k => (Value.slice aoC N caC).ownBlock = some k) wc wd) (hCb : (Value.slice aoC N caC).ownBlock ≠ some b) => (h2.block b (Nat.lt_of_lt_of_le (lt_of_block HB.out) hk.size) hCb).trans ((hk.block b (lt_of_block HB.out) (fun e => e)).trans HB.out))
  go_wp2_with fail
  go_region_law (first
    | (refine step_append_sl2 _ rfl (.tmp 24) (.tmp 27) 33 rfl 45 j0 _ 1 24 Tryz.underlying33 hj0 kz0 kz1 kz2 rfl (by decide) (.slice aoC N caC) N cs (by kernel_rfl) (HC4.out.alloc _) ⟨w4.heap.size, 0, none⟩ 1 1 [.slice aox l.length cax] (by kernel_rfl) rfl (cells_new _ _ _ _) hone (by omega) b1 b2 ?_; intro g7 off7 cap7 w7 h1 h2 h3; have hb7 := HB7.out _ w7 (K4.out.alloc _) h2 HCB.out; have y7 := (cell_at hb7 9).trans (HA7.out _); have f7 := frozen_at hb7 9; have FIN := Lib.hid (ONE2.out w4 _ w7 _ FR.out ((Kept.refl (fun _ => False) w4).alloc _) g7 off7 cap7 h1 h2 h3); clear h1 h2 h3 hb7)
    | (go_simp; go_at_call 43; refine (COPY.out _ ((Kept.refl (fun _ => False) w3).drew)).mono ?_; rintro e w4 ⟨x, rfl, hfr⟩; have K4 := Lib.hid (((Kept.refl (fun _ => False) w3).drew).trans hfr.2.1 (fun _ _ h => h)); obtain ⟨aox, cax, rfl, _⟩ := (Rd.of_sl hfr.1).shape; have FR := Lib.hid (show Fresh w3 w4 44 4 l.length (.slice aox l.length cax) (flat (l)) from ⟨hfr.1, K4.out, hfr.2.2⟩); have HC4 := Lib.hid (HC.out.kept K4.out (fun _ _ h => h)); have x7' := K4.out.cell0 x7; have x7b : (w4.alloc (.cells #[.slice aox l.length cax] 45)).cell? ⟨b, 9, none⟩ = _ := (cell_alloc_lt (World.block_lt_of_cell? _ ⟨b, 9, none⟩ x7')).trans x7'; have hone : ∀ u ∈ [Value.slice aox l.length cax], u.oneCell' = true := (by simp [Value.oneCell']); clear hfr))
  all_goals
    go_wp2_with fail
    go_end0
    exact ⟨rfl, FIN.out⟩
end Go.Proofs.YtekcjoogggoijaaGreatDoor
