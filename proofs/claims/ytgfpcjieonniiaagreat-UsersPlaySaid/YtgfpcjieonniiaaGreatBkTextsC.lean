/-
  The Book's texts: put: each list is marked in place.
-/
import Derived.Test.YtgfpcjieonniiaaGreatBkTextsA
namespace Go.Proofs.YtgfpcjieonniiaaGreat
set_option linter.unusedVariables false
set_option linter.unusedSimpArgs false
set_option linter.unnecessarySimpa false
open Go.RowKit

set_option maxRecDepth 100000 in
set_option maxHeartbeats 4000000 in
theorem putTexts_any (b : Nat) (F : Nat → Prop) (N : Nat) (V : Value) (vs : List Value) (len : Nat → Nat) (con : Nat → List Value) (w : World) (h6 : w.cell? ⟨b, 0, none⟩ = some V) (hb : ¬ F b)
    (h : Kd w 47 9 1 F N V vs len con) (hn : N ≤ 1000) (hl : ∀ i, i < N → len i ≤ 100000) :
    Calls Tryz.prog 41 #[.pointer (some ⟨b, 0, none⟩)] w fun e w' => e = .returned (.tuple #[]) ∧ Kd w' 47 9 1 F N V vs len (fun j => mkF (mkTexts j) 0 (len j)) ∧ Kept F w w' := by
  obtain ⟨aoV, caV, rfl, _⟩ := (Rd.of_sl h.row).shape
  have HB := Lib.hid hb
  have HZ := Lib.hid hl
  have HD := Lib.hid h
  have H6 := Lib.hid h6
  clear h hb hl
  go_enter Tryz.func41, Tryz.ntmps41
  go_wp2_with fail
  go_loopg [2] N (fun gk k wr => ∃ i : Nat, i + gk = N ∧ k = .int .i64 (i : Int) ∧ Kd wr 47 9 1 F N (.slice aoV N caV) vs len (fun j => if j < i then mkF (mkTexts j) 0 (len j) else con j) ∧ Kept F w wr)
  case atStart => exact ⟨0, by omega, rfl, HD.out.congr (fun i hi => ⟨rfl, by simp⟩), Kept.refl _ _⟩
  case round =>
    obtain ⟨i, hi, rfl, hkd, hk⟩ := hrel
    have x6 : wr.cell? ⟨b, 0, none⟩ = some (.slice aoV N caV) := (hk.cell (p := ⟨b, 0, none⟩) (World.block_lt_of_cell? w ⟨b, 0, none⟩ H6.out) HB.out).trans H6.out
    have HK := Lib.hid hk
    have HKD := Lib.hid hkd
    clear hk h6
    by_cases hlt : i < N
    · obtain ⟨g, off, cap, a, m, hV, x0, hv, hs⟩ := hkd.at i hlt
      injection hV with hV1 hV2 hV3
      subst hV1 hV3
      have hz := HZ.out i hlt
      obtain ⟨z, hzz⟩ : ∃ z, z = len i := ⟨_, rfl⟩
      rw [← hzz] at x0 hv hs hz
      have HV := Lib.hid hv
      have HS := Lib.hid hs
      have HZZ := Lib.hid hzz
      clear hkd hv hs hzz
      go_wp2_with fail
      go_at_call 76
      refine (markTexts_any i 0 z _ (by omega) (by omega) hz).mono ?_
      rintro e w2 ⟨u, rfl, hfr⟩
      have HFR := Lib.hid hfr
      obtain ⟨aou, cau, rfl, _⟩ := (Rd.of_sl hfr.1).shape
      clear hfr
      have hstart : Sl w2 9 1 z (.slice a z m) (mkF (mkTexts i) 0 0 ++ (if i < i then mkF (mkTexts i) 0 (len i) else con i).drop (0 * 1)) := by
        rw [mkF_zero]
        simpa using HS.out.kept HFR.out.2.1 (fun _ _ h => h)
      have HST := Lib.hid hstart
      have X6 := Lib.hid (HFR.out.2.1.cell0 x6)
      have X0 := Lib.hid (HFR.out.2.1.cell0 x0)
      have hown : ∀ k, (Value.slice a z m).ownBlock = some k → k ≠ b ∧ k ≠ g ∧ (Value.slice aou z cau).ownBlock ≠ some k := fun k hk => by
        obtain ⟨v', hv', hs', ho⟩ := HKD.out.item i hlt
        rw [HV.out] at hv'
        injection hv' with hv'
        subst hv'
        refine ⟨fun e => HB.out (e ▸ (ho k hk).1), fun e => (ho k hk).2 (e ▸ rfl), fun e => ?_⟩
        have := hs'.lt hk
        rcases HFR.out.2.2 with ⟨e1, _⟩ | ⟨g', off', cap', e1, e2⟩
        · rw [e1] at e; cases e
        · rw [e1] at e
          simp [Value.ownBlock] at e
          omega
      have OWN := Lib.hid hown
      clear hstart x0 x6 hown
      go_wp2_with fail
      go_loopg [4] z (fun gj k wn => ∃ j : Nat, j + gj = z ∧ k = .int .i64 (j : Int) ∧ Sl wn 9 1 z (.slice a z m) (mkF (mkTexts i) 0 j ++ (if i < i then mkF (mkTexts i) 0 (len i) else con i).drop (j * 1)) ∧ Kept (fun k => (Value.slice a z m).ownBlock = some k) w2 wn)
      case atStart => exact ⟨0, by omega, rfl, HST.out, Kept.refl _ _⟩
      case round =>
        obtain ⟨j, hj, rfl, hsl, hkn⟩ := hrel
        have HJ := Lib.hid hsl
        have HN := Lib.hid hkn
        clear hkn
        by_cases hjz : j < z
        · obtain ⟨ga, oa, rfl⟩ : ∃ ga oa, a = some ⟨ga, oa, none⟩ := by
            rcases hsl.form with ⟨_, h0, _⟩ | ⟨g', off', cap', e, _, e2⟩
            · omega
            · injection e with e1
              exact ⟨g', off', e1⟩
          obtain ⟨gu, ou, rfl⟩ : ∃ gu ou, aou = some ⟨gu, ou, none⟩ := by
            rcases HFR.out.1.form with ⟨_, h0, _⟩ | ⟨g', off', cap', e, _, e2⟩
            · omega
            · injection e with e1
              exact ⟨g', off', e1⟩
          obtain ⟨hab, hag, hau⟩ := OWN.out ga rfl
          have hau : ¬ ga = gu := fun e => hau (e ▸ rfl)
          have KN : Kept (fun k => ga = k) w2 wr := HN.out.mono (fun k _ h => by simpa [Value.ownBlock] using h)
          have x6 := (KN.cell (p := ⟨b, 0, none⟩) (World.block_lt_of_cell? w2 ⟨b, 0, none⟩ X6.out) hab).trans X6.out
          have x0 := (KN.cell (p := ⟨g, off + i, none⟩) (World.block_lt_of_cell? w2 ⟨g, off + i, none⟩ X0.out) hag).trans X0.out
          have hcell : ∀ t, t < 1 → ∀ y, (mkTexts i j)[t]? = some y → wr.cell? ⟨gu, ou + (j * 1 + t), none⟩ = some y := fun t ht y hy => by
            have h1 := HFR.out.1.cellG (j * 1 + t) y (by rw [mkF_at (mkTexts_length i) hjz ht]; exact hy)
            exact (KN.cell (p := ⟨gu, ou + (j * 1 + t), none⟩) (World.block_lt_of_cell? w2 ⟨gu, ou + (j * 1 + t), none⟩ h1) hau).trans h1
          have y0 := hcell 0 (by omega) _ rfl
          have hxl := hsl.1
          have hcur : ∀ t, t < 1 → ∃ y, wr.cell? ⟨ga, oa + (j * 1 + t), none⟩ = some y := fun t ht => ⟨_, hsl.cellG (j * 1 + t) _ (List.getElem?_eq_getElem (by omega))⟩
          obtain ⟨c0, z0⟩ := hcur 0 (by omega)
          have f0 := hsl.thawG (oa + (j * 1))
          clear hcell hcur hxl hsl KN
          simp only [Nat.add_zero, Nat.mul_one, ← Nat.add_assoc] at y0 z0 f0
          go_wp2_with fail
          go_region
          go_wp2_with fail
          go_roundg (gk - 1)
          case measure => omega
          case rel =>
            have e1 := (HJ.out.putOne (mkTexts_length i) hjz).drew
            have e2 := (HN.out.setCells (g := ga) (fun _ => rfl) (oa + j * 1) (mkTexts i j)).drew
            rw [Nat.mul_one] at e1 e2
            exact ⟨j + 1, by omega, by go_num, e1, e2⟩
        · obtain rfl : j = z := by omega
          obtain ⟨hd1, hd2⟩ := HKD.out.putDone mkTexts_length hlt HV.out HZZ.out HFR.out.2.1 HN.out HJ.out
          go_wp2_with fail
          go_roundg (N - i - 1)
          case measure => omega
          case rel => exact ⟨i + 1, by omega, by go_num, hd1, hd2 _ HK.out⟩
    · go_wp2_with fail
      go_end0
      exact ⟨rfl, HKD.out.congr (fun j hj => ⟨rfl, by rw [if_pos (by omega)]⟩), HK.out⟩
end Go.Proofs.YtgfpcjieonniiaaGreat
