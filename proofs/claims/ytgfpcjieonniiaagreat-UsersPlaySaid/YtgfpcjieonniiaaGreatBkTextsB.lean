/-
  The Book's texts: are lists marked? are they as they were?
-/
import Derived.Test.YtgfpcjieonniiaaGreatBkTextsA
import Derived.Deep.RegionWith
namespace Go.Proofs.YtgfpcjieonniiaaGreat
set_option linter.unusedVariables false
set_option linter.unusedSimpArgs false
set_option linter.unnecessarySimpa false
open Go.RowKit

/-- V: a slice of slices with these lists. -/
def ListsTexts (w : World) (V : Value) (vs : List Value) (Ls : List (List ByteArray)) : Prop := Rd w 1 Ls.length V vs ∧ ∀ (i : Nat) (h : i < Ls.length), ∃ v, vs[i]? = some v ∧ Rd w 1 (Ls[i]).length v ((Ls[i]).map Value.string)
theorem ListsTexts.at {w : World} {ao : Option Addr} {n c : Nat} {vs : List Value} {Ls : List (List ByteArray)} (h : ListsTexts w (.slice ao n c) vs Ls) (i : Nat) (hi : i < Ls.length) :
    ∃ g off a m, ao = some ⟨g, off, none⟩ ∧ w.cell? ⟨g, off + i, none⟩ = some (.slice a (Ls[i]).length m) ∧ Rd w 1 (Ls[i]).length (.slice a (Ls[i]).length m) ((Ls[i]).map Value.string) := by
  obtain ⟨v, hv, hr⟩ := h.2 i hi
  obtain ⟨_, _, hc⟩ := h.1.at
  obtain ⟨g, off, rfl, hcell⟩ := hc i v hv
  obtain ⟨a, m, rfl, _⟩ := hr.shape
  exact ⟨g, off, a, m, rfl, hcell, hr⟩
theorem ListsTexts.kept {w w' : World} {V : Value} {vs : List Value} {Ls : List (List ByteArray)} (h : ListsTexts w V vs Ls) (hk : Kept (fun _ => False) w w') : ListsTexts w' V vs Ls :=
  ⟨h.1.kept hk (fun _ _ h => h), fun i hi => by obtain ⟨v, hv, hr⟩ := h.2 i hi; exact ⟨v, hv, hr.kept hk (fun _ _ h => h)⟩⟩
theorem ListsTexts.keptS {w w' : World} {S : Nat → Prop} {V : Value} {vs : List Value} {Ls : List (List ByteArray)} (h : ListsTexts w V vs Ls) (hk : Kept S w w') (hV : ∀ k, V.ownBlock = some k → ¬ S k) (hv : ∀ v ∈ vs, ∀ k, v.ownBlock = some k → ¬ S k) : ListsTexts w' V vs Ls :=
  ⟨h.1.kept hk hV, fun i hi => by obtain ⟨v, hv', hr⟩ := h.2 i hi; exact ⟨v, hv', hr.kept hk (hv v (List.mem_of_getElem? hv'))⟩⟩

set_option maxRecDepth 100000 in
set_option maxHeartbeats 1600000 in
theorem markedTexts_true (V : Value) (vs : List Value) (Ls : List (List ByteArray)) (w : World) (h : ListsTexts w V vs Ls) (hn : Ls.length ≤ 1000) (hm : ∀ (i : Nat) (h : i < Ls.length), Ls[i] = markTextsL i (Ls[i]).length) (hl : ∀ L ∈ Ls, L.length ≤ 100000) :
    Calls Tryz.prog 54 #[V] w fun e w' => e = .returned (.bool true) ∧ Kept (fun _ => False) w w' := by
  obtain ⟨ao, ca, rfl, hca⟩ := h.1.shape
  obtain ⟨n, hnn⟩ : ∃ n, n = Ls.length := ⟨_, rfl⟩
  rw [← hnn] at hn h ⊢
  have HN := Lib.hid hnn
  have HL := Lib.hid h
  have HM := Lib.hid hm
  have HZ := Lib.hid hl
  clear h hm hl hnn hca
  go_enter Tryz.func54, Tryz.ntmps54
  go_wp2_with fail
  go_loopg [3] n (fun gk k wr => ∃ i : Nat, i + gk = n ∧ k = .int .i64 (i : Int) ∧ Kept (fun _ => False) w wr)
  case atStart => exact ⟨0, by omega, rfl, Kept.refl _ _⟩
  case round =>
    obtain ⟨i, hi, rfl, hk⟩ := hrel
    have HK := Lib.hid hk
    clear hk
    by_cases hlt : i < n
    · have hil : i < Ls.length := HN.out ▸ hlt
      obtain ⟨g, off, a, m, rfl, x0, hr0⟩ := (HL.out.kept HK.out).at i hil
      have hz := HZ.out _ (List.getElem_mem hil)
      have hmk := HM.out i hil
      generalize (Ls[i]'hil) = L at *
      obtain ⟨z, hzz⟩ : ∃ z, z = L.length := ⟨_, rfl⟩
      rw [← hzz] at hmk
      rw [← hzz] at x0 hz hr0
      have HR0 := Lib.hid hr0
      clear hr0
      have MK := Lib.hid (fun (W : World) => (show Calls Tryz.prog 76 #[.int .i64 i, .int .i64 0, .int .i64 z] W (FreshRet W 9 1 z ((markTextsL i z).map Value.string)) from by rw [flat_markTexts]; exact markTexts_any i 0 z W (by omega) (by omega) hz))
      rw [← hmk] at MK
      have HZZ := Lib.hid hzz
      clear hzz hmk
      go_wp2_with fail
      go_region_with (first
        | (go_at_call 76; refine (MK.out _).mono ?_; rintro e w2 ⟨u, rfl, hfr⟩; have K2 := Lib.hid (((Kept.refl (fun _ => False) wr).drew).trans hfr.2.1 (fun _ _ h => h)); have y0 := K2.out.cell0 x0; obtain ⟨aou, cau, rfl, _⟩ := (Rd.of_sl hfr.1).shape; have hs := Rd.of_sl hfr.1; have SAME := Lib.hid (sameTexts_true (.slice a z m) (.slice aou z cau) L w2 (by rw [← HZZ.out]; exact HR0.out.kept K2.out (fun _ _ h => h)) (by rw [← HZZ.out]; exact hs) (by rw [← HZZ.out]; omega)); clear hfr hs)
        | (go_at_call 68; refine SAME.out.mono ?_; rintro e w3 ⟨rfl, q, rfl⟩; have K3 := Lib.hid (K2.out.drewN q)))
      all_goals
        go_wp2_with fail
        go_roundg (gk - 1)
        case measure => omega
        case rel => exact ⟨i + 1, by omega, by go_num, HK.out.trans K3.out (fun _ _ h => h)⟩
    · go_wp2_with fail
      go_ret
      exact ⟨rfl, HK.out⟩

set_option maxRecDepth 100000 in
set_option maxHeartbeats 1600000 in
theorem stillTexts_true (b : Nat) (V C : Value) (vs cs : List Value) (Ls : List (List ByteArray)) (w : World) (h6 : w.cell? ⟨b, 0, none⟩ = some V) (h7 : w.cell? ⟨b, 1, none⟩ = some C) (hV : ListsTexts w V vs Ls) (hC : ListsTexts w C cs Ls) (hn : Ls.length ≤ 1000) (hl : ∀ L ∈ Ls, L.length ≤ 100000) :
    Calls Tryz.prog 33 #[.pointer (some ⟨b, 0, none⟩)] w fun e w' => e = .returned (.bool true) ∧ Kept (fun _ => False) w w' := by
  obtain ⟨ao, ca, rfl, _⟩ := hV.1.shape
  obtain ⟨ao2, ca2, rfl, _⟩ := hC.1.shape
  obtain ⟨n, hnn⟩ : ∃ n, n = Ls.length := ⟨_, rfl⟩
  rw [← hnn] at hn h6 h7 hV hC
  have HN := Lib.hid hnn
  have HV := Lib.hid hV
  have HC := Lib.hid hC
  have HZ := Lib.hid hl
  have H6 := Lib.hid h6
  have H7 := Lib.hid h7
  clear hV hC hl hnn
  go_enter Tryz.func33, Tryz.ntmps33
  go_wp2_with fail
  go_loopg [3] n (fun gk k wr => ∃ i : Nat, i + gk = n ∧ k = .int .i64 (i : Int) ∧ Kept (fun _ => False) w wr)
  case atStart => exact ⟨0, by omega, rfl, Kept.refl _ _⟩
  case round =>
    obtain ⟨i, hi, rfl, hk⟩ := hrel
    have HK := Lib.hid hk
    have x6 := hk.cell0 H6.out
    have x7 := hk.cell0 H7.out
    clear hk h6 h7
    by_cases hlt : i < n
    · have hil : i < Ls.length := HN.out ▸ hlt
      obtain ⟨g, off, a, m, rfl, x0, hr0⟩ := (HV.out.kept HK.out).at i hil
      obtain ⟨g', off', a', m', rfl, y0, hr1⟩ := (HC.out.kept HK.out).at i hil
      have hz := HZ.out _ (List.getElem_mem hil)
      generalize (Ls[i]'hil) = L at *
      have SAME := Lib.hid (fun (W : World) (hW : Kept (fun _ => False) wr W) => sameTexts_true (.slice a L.length m) (.slice a' L.length m') L W (hr0.kept hW (fun _ _ h => h)) (hr1.kept hW (fun _ _ h => h)) (by omega))
      clear hr0 hr1
      go_wp2_with fail
      go_region_with (go_at_call 68; refine (SAME.out _ ((Kept.refl (fun _ => False) wr).drew)).mono ?_; rintro e w3 ⟨rfl, q, rfl⟩)
      all_goals
        go_wp2_with fail
        go_roundg (gk - 1)
        case measure => omega
        case rel => exact ⟨i + 1, by omega, by go_num, HK.out.trans ((Kept.refl (fun _ => False) wr).drewN _) (fun _ _ h => h)⟩
    · go_wp2_with fail
      go_ret
      exact ⟨rfl, HK.out⟩
end Go.Proofs.YtgfpcjieonniiaaGreat
