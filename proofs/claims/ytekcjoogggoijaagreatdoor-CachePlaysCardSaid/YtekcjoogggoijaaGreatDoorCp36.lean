/-
  The Book's texts: grow: each list grown, one mark at a time and then by many.
-/
import Derived.Test.YtekcjoogggoijaaGreatDoorCp35
import Derived.Deep.RegionWith
set_option linter.unusedVariables false
set_option linter.unusedSimpArgs false
set_option linter.unnecessarySimpa false
namespace Go.Proofs.YtekcjoogggoijaaGreatDoor
open Go.RowKit

/-- V: a slice of slices with these lists. -/
def ListsTexts (w : World) (V : Value) (vs : List Value) (Ls : List (List ByteArray)) : Prop := Rd w 1 Ls.length V vs ∧ ∀ (i : Nat) (h : i < Ls.length), ∃ v, vs[i]? = some v ∧ Rd w 1 (Ls[i]).length v ((Ls[i]).map Value.string)
theorem ListsTexts.at {w : World} {ao : Option Addr} {n c : Nat} {vs : List Value} {Ls : List (List ByteArray)} (h : ListsTexts w (.slice ao n c) vs Ls) (i : Nat) (hi : i < Ls.length) :
    ∃ g off a m, ao = some ⟨g, off, none⟩ ∧ w.cell? ⟨g, off + i, none⟩ = some (.slice a (Ls[i]).length m) ∧ Rd w 1 (Ls[i]).length (.slice a (Ls[i]).length m) ((Ls[i]).map Value.string) := by
  obtain ⟨v, hv, hr⟩ := h.2 i hi
  obtain ⟨_, _, hc⟩ := h.1.at
  obtain ⟨g, off, rfl, hcell⟩ := hc i v hv
  obtain ⟨a, m, rfl, _⟩ := hr.shape
  exact ⟨g, off, a, m, rfl, hcell, hr⟩
theorem ListsTexts.kept {w w' : World} {V : Value} {vs : List Value} {Ls : List (List ByteArray)} (h : ListsTexts w V vs Ls) (hk : Kept (fun _ => False) w w') : ListsTexts w' V vs Ls :=
  ⟨h.1.kept hk (fun _ _ h => h), fun i hi => by obtain ⟨v, hv, hr⟩ := h.2 i hi; exact ⟨v, hv, hr.kept hk (fun _ _ h => h)⟩⟩
theorem ListsTexts.keptS {w w' : World} {S : Nat → Prop} {V : Value} {vs : List Value} {Ls : List (List ByteArray)} (h : ListsTexts w V vs Ls) (hk : Kept S w w') (hV : ∀ k, V.ownBlock = some k → ¬ S k) (hv : ∀ v ∈ vs, ∀ k, v.ownBlock = some k → ¬ S k) : ListsTexts w' V vs Ls :=
  ⟨h.1.kept hk hV, fun i hi => by obtain ⟨v, hv', hr⟩ := h.2 i hi; exact ⟨v, hv', hr.kept hk (hv v (List.mem_of_getElem? hv'))⟩⟩

set_option maxRecDepth 100000 in
set_option maxHeartbeats 1600000 in
theorem markedTexts_true (V : Value) (vs : List Value) (Ls : List (List ByteArray)) (w : World) (h : ListsTexts w V vs Ls) (hn : Ls.length ≤ 1000) (hm : ∀ (i : Nat) (h : i < Ls.length), Ls[i] = markTextsL i (Ls[i]).length) (hl : ∀ L ∈ Ls, L.length ≤ 100000) :
    Calls Tryz.prog 67 #[V] w fun e w' => e = .returned (.bool true) ∧ Kept (fun _ => False) w w' := by
  obtain ⟨ao, ca, rfl, hca⟩ := h.1.shape
  obtain ⟨n, hnn⟩ : ∃ n, n = Ls.length := ⟨_, rfl⟩
  rw [← hnn] at hn h ⊢
  have HN := Lib.hid hnn
  have HL := Lib.hid h
  have HM := Lib.hid hm
  have HZ := Lib.hid hl
  clear h hm hl hnn hca
  go_enter Tryz.func67, Tryz.ntmps67
  go_wp2_with fail
  go_loopg [3] n (fun gk k wr => ∃ i : Nat, i + gk = n ∧ k = .int .i64 (i : Int) ∧ Kept (fun _ => False) w wr)
  case atStart => exact ⟨0, by omega, rfl, Kept.refl _ _⟩
  case round =>
    obtain ⟨i, hi, rfl, hk⟩ := hrel
    have HK := Lib.hid hk
    clear hk
    by_cases hlt : i < n
    · have hil : i < Ls.length := HN.out ▸ hlt
      obtain ⟨g, off, a, m, rfl, x0, hr0⟩ := (HL.out.kept HK.out).at i hil
      have hz := HZ.out _ (List.getElem_mem hil)
      have hmk := HM.out i hil
      generalize (Ls[i]'hil) = L at *
      obtain ⟨z, hzz⟩ : ∃ z, z = L.length := ⟨_, rfl⟩
      rw [← hzz] at hmk
      rw [← hzz] at x0 hz hr0
      have HR0 := Lib.hid hr0
      clear hr0
      have MK := Lib.hid (fun (W : World) => (show Calls Tryz.prog 95 #[.int .i64 i, .int .i64 0, .int .i64 z] W (FreshRet W 9 1 z ((markTextsL i z).map Value.string)) from by rw [flat_markTexts]; exact markTexts_any i 0 z W (by omega) (by omega) hz))
      rw [← hmk] at MK
      have HZZ := Lib.hid hzz
      clear hzz hmk
      go_wp2_with fail
      go_region_with (first
        | (go_at_call 95; refine (MK.out _).mono ?_; rintro e w2 ⟨u, rfl, hfr⟩; have K2 := Lib.hid (((Kept.refl (fun _ => False) wr).drew).trans hfr.2.1 (fun _ _ h => h)); have y0 := K2.out.cell0 x0; obtain ⟨aou, cau, rfl, _⟩ := (Rd.of_sl hfr.1).shape; have hs := Rd.of_sl hfr.1; have SAME := Lib.hid (sameTexts_true (.slice a z m) (.slice aou z cau) L w2 (by rw [← HZZ.out]; exact HR0.out.kept K2.out (fun _ _ h => h)) (by rw [← HZZ.out]; exact hs) (by rw [← HZZ.out]; omega)); clear hfr hs)
        | (go_at_call 17; refine SAME.out.mono ?_; rintro e w3 ⟨rfl, q, rfl⟩; have K3 := Lib.hid (K2.out.drewN q)))
      all_goals
        go_wp2_with fail
        go_roundg (gk - 1)
        case measure => omega
        case rel => exact ⟨i + 1, by omega, by go_num, HK.out.trans K3.out (fun _ _ h => h)⟩
    · go_wp2_with fail
      go_ret
      exact ⟨rfl, HK.out⟩

set_option maxRecDepth 100000 in
set_option maxHeartbeats 1600000 in
theorem stillTexts_true (b : Nat) (V C : Value) (vs cs : List Value) (Ls : List (List ByteArray)) (w : World) (h6 : w.cell? ⟨b, 0, none⟩ = some V) (h7 : w.cell? ⟨b, 1, none⟩ = some C) (hV : ListsTexts w V vs Ls) (hC : ListsTexts w C cs Ls) (hn : Ls.length ≤ 1000) (hl : ∀ L ∈ Ls, L.length ≤ 100000) :
    Calls Tryz.prog 46 #[.pointer (some ⟨b, 0, none⟩)] w fun e w' => e = .returned (.bool true) ∧ Kept (fun _ => False) w w' := by
  obtain ⟨ao, ca, rfl, _⟩ := hV.1.shape
  obtain ⟨ao2, ca2, rfl, _⟩ := hC.1.shape
  obtain ⟨n, hnn⟩ : ∃ n, n = Ls.length := ⟨_, rfl⟩
  rw [← hnn] at hn h6 h7 hV hC
  have HN := Lib.hid hnn
  have HV := Lib.hid hV
  have HC := Lib.hid hC
  have HZ := Lib.hid hl
  have H6 := Lib.hid h6
  have H7 := Lib.hid h7
  clear hV hC hl hnn
  go_enter Tryz.func46, Tryz.ntmps46
  go_wp2_with fail
  go_loopg [3] n (fun gk k wr => ∃ i : Nat, i + gk = n ∧ k = .int .i64 (i : Int) ∧ Kept (fun _ => False) w wr)
  case atStart => exact ⟨0, by omega, rfl, Kept.refl _ _⟩
  case round =>
    obtain ⟨i, hi, rfl, hk⟩ := hrel
    have HK := Lib.hid hk
    have x6 := hk.cell0 H6.out
    have x7 := hk.cell0 H7.out
    clear hk h6 h7
    by_cases hlt : i < n
    · have hil : i < Ls.length := HN.out ▸ hlt
      obtain ⟨g, off, a, m, rfl, x0, hr0⟩ := (HV.out.kept HK.out).at i hil
      obtain ⟨g', off', a', m', rfl, y0, hr1⟩ := (HC.out.kept HK.out).at i hil
      have hz := HZ.out _ (List.getElem_mem hil)
      generalize (Ls[i]'hil) = L at *
      have SAME := Lib.hid (fun (W : World) (hW : Kept (fun _ => False) wr W) => sameTexts_true (.slice a L.length m) (.slice a' L.length m') L W (hr0.kept hW (fun _ _ h => h)) (hr1.kept hW (fun _ _ h => h)) (by omega))
      clear hr0 hr1
      go_wp2_with fail
      go_region_with (go_at_call 17; refine (SAME.out _ ((Kept.refl (fun _ => False) wr).drew)).mono ?_; rintro e w3 ⟨rfl, q, rfl⟩)
      all_goals
        go_wp2_with fail
        go_roundg (gk - 1)
        case measure => omega
        case rel => exact ⟨i + 1, by omega, by go_num, HK.out.trans ((Kept.refl (fun _ => False) wr).drewN _) (fun _ _ h => h)⟩
    · go_wp2_with fail
      go_ret
      exact ⟨rfl, HK.out⟩
end Go.Proofs.YtekcjoogggoijaaGreatDoor
namespace Go.Proofs.YtekcjoogggoijaaGreatDoor
open Go.RowKit

set_option maxRecDepth 100000 in
set_option maxHeartbeats 4000000 in
theorem putTexts_any (b : Nat) (F : Nat → Prop) (N : Nat) (V : Value) (vs : List Value) (len : Nat → Nat) (con : Nat → List Value) (w : World) (h6 : w.cell? ⟨b, 0, none⟩ = some V) (hb : ¬ F b)
    (h : Kd w 49 9 1 F N V vs len con) (hn : N ≤ 1000) (hl : ∀ i, i < N → len i ≤ 100000) :
    Calls Tryz.prog 54 #[.pointer (some ⟨b, 0, none⟩)] w fun e w' => e = .returned (.tuple #[]) ∧ Kd w' 49 9 1 F N V vs len (fun j => mkF (mkTexts j) 0 (len j)) ∧ Kept F w w' := by
  obtain ⟨aoV, caV, rfl, _⟩ := (Rd.of_sl h.row).shape
  have HB := Lib.hid hb
  have HZ := Lib.hid hl
  have HD := Lib.hid h
  have H6 := Lib.hid h6
  clear h hb hl
  go_enter Tryz.func54, Tryz.ntmps54
  go_wp2_with fail
  go_loopg [2] N (fun gk k wr => ∃ i : Nat, i + gk = N ∧ k = .int .i64 (i : Int) ∧ Kd wr 49 9 1 F N (.slice aoV N caV) vs len (fun j => if j < i then mkF (mkTexts j) 0 (len j) else con j) ∧ Kept F w wr)
  case atStart => exact ⟨0, by omega, rfl, HD.out.congr (fun i hi => ⟨rfl, by simp⟩), Kept.refl _ _⟩
  case round =>
    obtain ⟨i, hi, rfl, hkd, hk⟩ := hrel
    have x6 : wr.cell? ⟨b, 0, none⟩ = some (.slice aoV N caV) := (hk.cell (p := ⟨b, 0, none⟩) (World.block_lt_of_cell? w ⟨b, 0, none⟩ H6.out) HB.out).trans H6.out
    have HK := Lib.hid hk
    have HKD := Lib.hid hkd
    clear hk h6
    by_cases hlt : i < N
    · obtain ⟨g, off, cap, a, m, hV, x0, hv, hs⟩ := hkd.at i hlt
      injection hV with hV1 hV2 hV3
      subst hV1 hV3
      have hz := HZ.out i hlt
      obtain ⟨z, hzz⟩ : ∃ z, z = len i := ⟨_, rfl⟩
      rw [← hzz] at x0 hv hs hz
      have HV := Lib.hid hv
      have HS := Lib.hid hs
      have HZZ := Lib.hid hzz
      clear hkd hv hs hzz
      go_wp2_with fail
      go_at_call 95
      refine (markTexts_any i 0 z _ (by omega) (by omega) hz).mono ?_
      rintro e w2 ⟨u, rfl, hfr⟩
      have HFR := Lib.hid hfr
      obtain ⟨aou, cau, rfl, _⟩ := (Rd.of_sl hfr.1).shape
      clear hfr
      have hstart : Sl w2 9 1 z (.slice a z m) (mkF (mkTexts i) 0 0 ++ (if i < i then mkF (mkTexts i) 0 (len i) else con i).drop (0 * 1)) := by
        rw [mkF_zero]
        simpa using HS.out.kept HFR.out.2.1 (fun _ _ h => h)
      have HST := Lib.hid hstart
      have X6 := Lib.hid (HFR.out.2.1.cell0 x6)
      have X0 := Lib.hid (HFR.out.2.1.cell0 x0)
      have hown : ∀ k, (Value.slice a z m).ownBlock = some k → k ≠ b ∧ k ≠ g ∧ (Value.slice aou z cau).ownBlock ≠ some k := fun k hk => by
        obtain ⟨v', hv', hs', ho⟩ := HKD.out.item i hlt
        rw [HV.out] at hv'
        injection hv' with hv'
        subst hv'
        refine ⟨fun e => HB.out (e ▸ (ho k hk).1), fun e => (ho k hk).2 (e ▸ rfl), fun e => ?_⟩
        have := hs'.lt hk
        rcases HFR.out.2.2 with ⟨e1, _⟩ | ⟨g', off', cap', e1, e2⟩
        · rw [e1] at e; cases e
        · rw [e1] at e
          simp [Value.ownBlock] at e
          omega
      have OWN := Lib.hid hown
      clear hstart x0 x6 hown
      go_wp2_with fail
      go_loopg [4] z (fun gj k wn => ∃ j : Nat, j + gj = z ∧ k = .int .i64 (j : Int) ∧ Sl wn 9 1 z (.slice a z m) (mkF (mkTexts i) 0 j ++ (if i < i then mkF (mkTexts i) 0 (len i) else con i).drop (j * 1)) ∧ Kept (fun k => (Value.slice a z m).ownBlock = some k) w2 wn)
      case atStart => exact ⟨0, by omega, rfl, HST.out, Kept.refl _ _⟩
      case round =>
        obtain ⟨j, hj, rfl, hsl, hkn⟩ := hrel
        have HJ := Lib.hid hsl
        have HN := Lib.hid hkn
        clear hkn
        by_cases hjz : j < z
        · obtain ⟨ga, oa, rfl⟩ : ∃ ga oa, a = some ⟨ga, oa, none⟩ := by
            rcases hsl.form with ⟨_, h0, _⟩ | ⟨g', off', cap', e, _, e2⟩
            · omega
            · injection e with e1
              exact ⟨g', off', e1⟩
          obtain ⟨gu, ou, rfl⟩ : ∃ gu ou, aou = some ⟨gu, ou, none⟩ := by
            rcases HFR.out.1.form with ⟨_, h0, _⟩ | ⟨g', off', cap', e, _, e2⟩
            · omega
            · injection e with e1
              exact ⟨g', off', e1⟩
          obtain ⟨hab, hag, hau⟩ := OWN.out ga rfl
          have hau : ¬ ga = gu := fun e => hau (e ▸ rfl)
          have KN : Kept (fun k => ga = k) w2 wr := HN.out.mono (fun k _ h => by simpa [Value.ownBlock] using h)
          have x6 := (KN.cell (p := ⟨b, 0, none⟩) (World.block_lt_of_cell? w2 ⟨b, 0, none⟩ X6.out) hab).trans X6.out
          have x0 := (KN.cell (p := ⟨g, off + i, none⟩) (World.block_lt_of_cell? w2 ⟨g, off + i, none⟩ X0.out) hag).trans X0.out
          have hcell : ∀ t, t < 1 → ∀ y, (mkTexts i j)[t]? = some y → wr.cell? ⟨gu, ou + (j * 1 + t), none⟩ = some y := fun t ht y hy => by
            have h1 := HFR.out.1.cellG (j * 1 + t) y (by rw [mkF_at (mkTexts_length i) hjz ht]; exact hy)
            exact (KN.cell (p := ⟨gu, ou + (j * 1 + t), none⟩) (World.block_lt_of_cell? w2 ⟨gu, ou + (j * 1 + t), none⟩ h1) hau).trans h1
          have y0 := hcell 0 (by omega) _ rfl
          have hxl := hsl.1
          have hcur : ∀ t, t < 1 → ∃ y, wr.cell? ⟨ga, oa + (j * 1 + t), none⟩ = some y := fun t ht => ⟨_, hsl.cellG (j * 1 + t) _ (List.getElem?_eq_getElem (by omega))⟩
          obtain ⟨c0, z0⟩ := hcur 0 (by omega)
          have f0 := hsl.thawG (oa + (j * 1))
          clear hcell hcur hxl hsl KN
          simp only [Nat.add_zero, Nat.mul_one, ← Nat.add_assoc] at y0 z0 f0
          go_wp2_with fail
          go_region
          go_wp2_with fail
          go_roundg (gk - 1)
          case measure => omega
          case rel =>
            have e1 := (HJ.out.putOne (mkTexts_length i) hjz).drew
            have e2 := (HN.out.setCells (g := ga) (fun _ => rfl) (oa + j * 1) (mkTexts i j)).drew
            rw [Nat.mul_one] at e1 e2
            exact ⟨j + 1, by omega, by go_num, e1, e2⟩
        · obtain rfl : j = z := by omega
          obtain ⟨hd1, hd2⟩ := HKD.out.putDone mkTexts_length hlt HV.out HZZ.out HFR.out.2.1 HN.out HJ.out
          go_wp2_with fail
          go_roundg (N - i - 1)
          case measure => omega
          case rel => exact ⟨i + 1, by omega, by go_num, hd1, hd2 _ HK.out⟩
    · go_wp2_with fail
      go_end0
      exact ⟨rfl, HKD.out.congr (fun j hj => ⟨rfl, by rw [if_pos (by omega)]⟩), HK.out⟩
end Go.Proofs.YtekcjoogggoijaaGreatDoor
namespace Go.Proofs.YtekcjoogggoijaaGreatDoor
open Go.RowKit

theorem listsTexts_info : (Tryz.prog.info? 49).map (fun i => (i.zero, i.size, i.bytes)) = some (some (.slice none 0 0), 1, 24) := by kernel_rfl
set_option maxRecDepth 100000 in
set_option maxHeartbeats 4000000 in
theorem growTexts_any (b : Nat) (F : Nat → Prop) (N : Nat) (V : Value) (vs : List Value) (len : Nat → Nat) (w : World) (h6 : w.cell? ⟨b, 0, none⟩ = some V) (hb : ¬ F b)
    (h : Kd w 49 9 1 F N V vs len (fun j => mkF (mkTexts j) 0 (len j))) (hn : N ≤ 1000) (hl : ∀ i, i < N → len i ≤ 90000) :
    Calls Tryz.prog 60 #[.pointer (some ⟨b, 0, none⟩)] w fun e w' => ∃ out os, e = .returned out ∧ Gr w w' 49 9 1 F N V vs len mkTexts 72 N out os := by
  obtain ⟨i0, hi0, hz0, hz1, hz2⟩ := info_parts strB_info
  obtain ⟨j0, hj0, kz0, kz1, kz2⟩ := info_parts listsTexts_info
  obtain ⟨aoV, caV, rfl, _⟩ := (Rd.of_sl h.row).shape
  have HB := Lib.hid hb
  have HZ := Lib.hid hl
  have HD := Lib.hid h
  have H6 := Lib.hid h6
  clear h hb hl
  go_enter Tryz.func60, Tryz.ntmps60
  go_wp2_with fail
  go_loopg [3, 4] N (fun gk o k wr => ∃ i : Nat, i + gk = N ∧ k = .int .i64 (i : Int) ∧ ∃ os, Gr w wr 49 9 1 F N (.slice aoV N caV) vs len mkTexts 72 i o os)
  case atStart => exact ⟨0, by omega, rfl, _, Gr.start HD.out⟩
  case round =>
    obtain ⟨i, hi, rfl, os, hgr⟩ := hrel
    have x6 : wr.cell? ⟨b, 0, none⟩ = some (.slice aoV N caV) := (hgr.kept.cell (p := ⟨b, 0, none⟩) (World.block_lt_of_cell? w ⟨b, 0, none⟩ H6.out) HB.out).trans H6.out
    have HG := Lib.hid hgr
    obtain ⟨aoO, caO, rfl, _⟩ := (Rd.of_sl hgr.orow).shape
    clear h6
    by_cases hlt : i < N
    · obtain ⟨g, off, cap, a, m, hV, x0, hv, hs⟩ := hgr.at i hlt
      injection hV with hV1 hV2 hV3
      subst hV1 hV3
      have hz := HZ.out i hlt
      have STEP := Lib.hid (fun (wn w5 w6 : World) (lv : Value) (g' off' cap' : Nat) (hg : Gi wr wn 9 1 (mkTexts i) (.slice a (len i) m) lv (len i) 72) h1 h2 h3 h4 => hgr.step hlt hv hg (w5 := w5) h1 (w6 := w6) (g := g') (off := off') (cap := cap') h2 h3 h4)
      have OUT := Lib.hid (fun (wn : World) (lv : Value) (n j : Nat) (hg : Gi wr wn 9 1 (mkTexts i) (.slice a (len i) m) lv n j) => hgr.out_at hlt hv hg)
      obtain ⟨z, hzz⟩ : ∃ z, z = len i := ⟨_, rfl⟩
      rw [← hzz] at x0 hv hs hz STEP OUT
      have GI := Lib.hid (Gi.start hs)
      have HV := Lib.hid hv
      have HZZ := Lib.hid hzz
      clear hgr hv hs hzz
      go_wp2_with fail
      go_loopg [5, 6] 12 (fun gj lv k wn => ∃ j : Nat, j + gj = 12 ∧ k = .int .i64 (j : Int) ∧ Gi wr wn 9 1 (mkTexts i) (.slice a z m) lv z j)
      case atStart => exact ⟨0, by omega, rfl, GI.out⟩
      case round =>
        obtain ⟨j, hj, rfl, hgi⟩ := hrel
        obtain ⟨y, hy⟩ : ∃ y, y = z + j := ⟨_, rfl⟩
        have hcur := hgi.cur
        rw [← hy] at hcur
        obtain ⟨aol, cal, rfl, _⟩ := (Rd.of_sl hcur).shape
        have HGI := Lib.hid hgi
        by_cases hlt2 : j < 12
        · have PUSH := Lib.hid (fun (wm w5 : World) (g' off' cap' : Nat) (hk : Kept (fun _ => False) wr wm) h1 h2 h3 => (hgi.keep hk).push (mkTexts_length i) (m := 1) (w' := w5) (g := g') (off := off') (cap := cap') h1 h2 h3)
          rw [← hy] at PUSH
          have hyb : y ≤ 90012 := by omega
          clear hy
          have HC := Lib.hid hcur
          have b1 : y + 1 ≤ maxLen := by unfold maxLen; omega
          have b2 : (y + 1) * 16 ≤ 140737488355328 := by omega
          clear hgi hcur x6 x0
          go_wp2_with fail
          go_at_call 95
          refine (markTexts_any i y 1 _ (by omega) (by omega) (by omega)).mono ?_
          rintro e wm ⟨u, rfl, hfr⟩
          obtain ⟨gu, ou, cu, rfl, hgu⟩ : ∃ gu ou cu, u = .slice (some ⟨gu, ou, none⟩) 1 cu ∧ wr.heap.size ≤ gu := by
            rcases hfr.2.2 with ⟨_, h0⟩ | h
            · omega
            · exact h
          have hnl := Lib.hid hfr.1.1
          have hncell := Lib.hid (hfr.1.cell rfl)
          have hsl := Lib.hid (HC.out.kept hfr.2.1 (fun _ _ h => h))
          have KF := Lib.hid hfr.2.1
          clear hfr hgu
          go_wp2_with (at_builtin; refine wpList_append_sl2 _ rfl (.tmp 27) (.tmp 31) 49 rfl 9 i0 _ 1 16 Tryz.underlying49 hi0 hz0 hz1 hz2 rfl (by decide) _ y _ rfl hsl.out ⟨gu, ou, none⟩ 1 cu _ rfl hnl.out hncell.out (mkTexts_one i y 1) (by omega) b1 b2 ?_; intro g4 off4 cap4 w5 h1 h2 h3; have FIN := Lib.hid (PUSH.out _ w5 g4 off4 cap4 KF.out h1 h2 h3); clear h1 h2 h3)
          go_roundg (gk - 1)
          case measure => omega
          case rel => exact ⟨j + 1, by omega, by go_num, FIN.out⟩
        · obtain rfl : j = 12 := by omega
          have PUSH := Lib.hid (fun (wm w5 : World) (g' off' cap' : Nat) (hk : Kept (fun _ => False) wr wm) h1 h2 h3 => (hgi.keep hk).push (mkTexts_length i) (m := 60) (w' := w5) (g := g') (off := off') (cap := cap') h1 h2 h3)
          have DONE := Lib.hid (HGI.out.kept)
          rw [← hy] at PUSH
          have hyb : y ≤ 90012 := by omega
          clear hy
          have HC := Lib.hid hcur
          have b3 : i + 1 ≤ maxLen := by unfold maxLen; omega
          have b4 : (i + 1) * 24 ≤ 140737488355328 := by omega
          have b1 : y + 60 ≤ maxLen := by unfold maxLen; omega
          have b2 : (y + 60) * 16 ≤ 140737488355328 := by omega
          clear hgi hcur x6 x0
          go_wp2_with fail
          go_at_call 95
          refine (markTexts_any i y 60 _ (by omega) (by omega) (by omega)).mono ?_
          rintro e wm ⟨u, rfl, hfr⟩
          obtain ⟨gu, ou, cu, rfl, hgu⟩ : ∃ gu ou cu, u = .slice (some ⟨gu, ou, none⟩) 60 cu ∧ wr.heap.size ≤ gu := by
            rcases hfr.2.2 with ⟨_, h0⟩ | h
            · omega
            · exact h
          have hnl := Lib.hid hfr.1.1
          have hncell := Lib.hid (hfr.1.cell rfl)
          have hsl := Lib.hid (HC.out.kept hfr.2.1 (fun _ _ h => h))
          have KF := Lib.hid hfr.2.1
          clear hfr hgu
          go_wp2_with (at_builtin; first
            | (refine wpList_append_sl2 _ rfl (.tmp 34) (.tmp 38) 49 rfl 9 i0 _ 1 16 Tryz.underlying49 hi0 hz0 hz1 hz2 rfl (by decide) _ y _ rfl hsl.out ⟨gu, ou, none⟩ 60 cu _ rfl hnl.out hncell.out (mkTexts_one i y 60) (by omega) b1 b2 ?_; intro g4 off4 cap4 w5 h1 h2 h3; have FIN := Lib.hid (PUSH.out _ w5 g4 off4 cap4 KF.out h1 h2 h3); clear h1 h2 h3)
            | (refine wpList_append_sl2 _ rfl (.tmp 33) (.tmp 40) 29 rfl 49 j0 _ 1 24 Tryz.underlying29 hj0 kz0 kz1 kz2 rfl (by decide) _ i os rfl ((OUT.out _ _ _ _ FIN.out).alloc _) ⟨w5.heap.size, 0, none⟩ 1 1 [.slice (some ⟨g4, off4, none⟩) (y + 60) cap4] rfl rfl (cells_new _ _ _ _) (by simp [Value.oneCell']) (by omega) b3 b4 ?_; intro g6 off6 cap6 w6 h1 h2 h3; have END := Lib.hid (STEP.out _ _ w6 _ g6 off6 cap6 FIN.out ((Kept.refl (fun _ => False) w5).alloc _) h1 h2 h3); clear h1 h2 h3))
          go_roundg (N - i - 1)
          case measure => omega
          case rel => exact ⟨i + 1, by omega, by go_num, _, END.out⟩
    · obtain rfl : i = N := by omega
      go_wp2_with fail
      go_ret
      exact ⟨_, _, rfl, HG.out⟩
end Go.Proofs.YtekcjoogggoijaaGreatDoor
