/-
  The Book's items: are lists marked? are they as they were?
-/
import Derived.Test.YtekcjoogggoijaaGreatDoorCp36
import Derived.Deep.RegionLaw
import Derived.Test.YtekcjoogggoijaaGreatDoorCp35
import Derived.Test.YtekcjoogggoijaaGreatDoorCp34
import Derived.Test.YtekcjoogggoijaaGreatDoorCp02
import Derived.BigRegion
import Derived.Deep.LoopGhost
import Derived.WalkSpells
import Derived.WalkLawsBesides
import Derived.Deep.RegionWith
set_option linter.unusedVariables false
set_option linter.unusedSimpArgs false
set_option linter.unnecessarySimpa false
namespace Go.Proofs.YtekcjoogggoijaaGreatDoor
open Go.RowKit

set_option maxRecDepth 100000 in
set_option maxHeartbeats 4000000 in
theorem keepTexts_any (b : Nat) (arr : Array Value) (F1 F2 : Nat → Prop) (N : Nat) (V C : Value) (vs cs : List Value) (len : Nat → Nat) (con : Nat → List Value) (u : Value) (l : List ByteArray) (w : World) (h : Kb w 49 9 1 F1 F2 N V C vs cs len con) (hb : w.heap[b]? = some (.cells arr 37 (0, 0)))
    (ha6 : arr[0]? = some V) (ha7 : arr[1]? = some C) (hF1 : ¬ F1 b) (hF2 : ¬ F2 b) (hu : Sl w 9 1 l.length u ((l).map Value.string)) (hf : ∀ k, u.ownBlock = some k → ¬ F1 k ∧ ¬ F2 k ∧ k ≠ b) (hn : N < 250) (hl : l.length ≤ 100000) :
    Calls Tryz.prog 10 #[.pointer (some ⟨b, 0, none⟩), u] w fun e w' => e = .returned (.tuple #[]) ∧ KeptOne w w' 49 9 1 37 b arr 0 1 F1 F2 N u l.length ((l).map Value.string) len con := by
  obtain ⟨j0, hj0, kz0, kz1, kz2⟩ := info_parts listsTexts_info
  obtain ⟨aoV, caV, rfl, _⟩ := (Rd.of_sl h.v.row).shape
  obtain ⟨aoC, caC, rfl, _⟩ := (Rd.of_sl h.c.row).shape
  obtain ⟨aou, cau, rfl, _⟩ := (Rd.of_sl hu).shape
  have x6 := (cell_at hb 0).trans ha6
  have x7 := (cell_at hb 1).trans ha7
  have f6 := frozen_at hb 0
  have HV := Lib.hid h.v.row
  have ONE := Lib.hid (fun (wa wb : World) (g off cap : Nat) (hk : Kept (fun _ => False) w wa) h1 h2 h3 (w4 wc wd : World) (x : Value) hx (hk4 : Kept (fun _ => False) w4 wc) (g' off' cap' : Nat) k1 k2 k3 => Kb.one h hb hF1 hF2 hu hf hk (wb := wb) (g := g) (off := off) (cap := cap) (o1 := 0) (o2 := 1) h1 h2 h3 (fun _ => trivial) (x := x) hx hk4 (wd := wd) (g' := g') (off' := off') (cap' := cap') k1 k2 k3)
  have HALF := Lib.hid (fun (wa wb : World) (g off cap : Nat) (hk : Kept (fun _ => False) w wa) h1 h2 h3 => h.v.keep hb hF1 hu (fun k hk => ⟨(hf k hk).1, (hf k hk).2.2⟩) hk (w2 := wb) (g := g) (off := off) (cap := cap) h1 h2 h3 0)
  have hUk : ∀ w3 : World, Kept (fun k => k = b ∨ F1 k) w w3 → Rd w3 1 l.length (.slice aou l.length cau) ((l).map Value.string) ∧ Sl w3 49 1 N (.slice aoC N caC) cs := fun w3 hk => ⟨(Rd.of_sl hu).kept hk (fun k hk hh => hh.elim (hf k hk).2.2 (hf k hk).1), h.c.row.kept hk (fun k hk hh => by
    have hkF := h.c.rowF k hk
    rcases hh with rfl | hh
    · exact hF2 hkF
    · exact h.dis k hh hkF)⟩
  have UK := Lib.hid hUk
  have HA7 := Lib.hid (show ∀ v, (arr.setIfInBounds 0 v)[1]? = some (.slice aoC N caC) from fun v => by rw [Array.getElem?_setIfInBounds_ne (by omega)]; exact ha7)
  have HB6 := Lib.hid (fun (wa wb : World) (hk : Kept (fun _ => False) w wa) (h2 : Kept (fun k => (Value.slice aoV N caV).ownBlock = some k) wa wb) => show wb.heap[b]? = some (.cells arr 37 (0, 0)) from (h2.block b (Nat.lt_of_lt_of_le (lt_of_block hb) hk.size) (fun e => hF1 (h.v.rowF b e))).trans ((hk.block b (lt_of_block hb) (fun e => e)).trans hb))
  have HA6 := Lib.hid ha6
  have HCB := Lib.hid (show (Value.slice aoC N caC).ownBlock ≠ some b from fun e => hF2 (h.c.rowF b e))
  clear hUk h hb ha6 ha7 hF1 hF2 hu hf
  have b1 : N + 1 ≤ maxLen := by unfold maxLen; omega
  have b2 : (N + 1) * 24 ≤ 140737488355328 := by omega
  go_enter Tryz.func10, Tryz.ntmps10
  go_wp2_with (at_builtin; refine wpList_append_sl2 _ rfl (.tmp 14) (.tmp 16) 29 rfl 49 j0 _ 1 24 Tryz.underlying29 hj0 kz0 kz1 kz2 rfl (by decide) _ N vs rfl (HV.out.alloc _) ⟨w.heap.size, 0, none⟩ 1 1 [.slice aou l.length cau] rfl rfl (cells_new _ _ _ _) (by simp [Value.oneCell']) (by omega) b1 b2 ?_; intro g6 off6 cap6 w6 h1 h2 h3; have hb6 := HB6.out _ w6 ((Kept.refl (fun _ => False) w).alloc _) h2; have y6 := (cell_at hb6 0).trans HA6.out; have f6' := frozen_at hb6 0; have HH := Lib.hid (HALF.out _ w6 g6 off6 cap6 ((Kept.refl (fun _ => False) w).alloc _) h1 h2 h3); have ONE2 := Lib.hid (ONE.out _ w6 g6 off6 cap6 ((Kept.refl (fun _ => False) w).alloc _) h1 h2 h3); clear h1 h2 h3 hb6 x6 x7 f6)
  obtain ⟨G1, a1, a2, a3, a4, a5⟩ := HH.out
  have uk := UK.out _ a4
  clear HH ONE HALF a1 a3 a4 a5 y6 f6' UK HB6
  generalize w6.setCell ⟨b, 0, none⟩ (.slice (some ⟨g6, off6, none⟩) (N + 1) cap6) = w3 at *
  have x7 := (cell_at a2 1).trans (HA7.out _)
  have hrd := Lib.hid uk.1
  have COPY := Lib.hid (fun (W : World) (hk : Kept (fun _ => False) w3 W) => copyTexts_any (.slice aou l.length cau) l W (uk.1.kept hk (fun _ _ h => h)) hl)
  have HC := Lib.hid uk.2
  have HB := Lib.hid a2
  clear uk a2
  have HB7 := Lib.hid (fun (wc wd : World) (hk : Kept (fun _ => False) w3 wc) (h2 : Kept (fun k => (Value.slice aoC N caC).ownBlock = some k) wc wd) (hCb : (Value.slice aoC N caC).ownBlock ≠ some b) => (h2.block b (Nat.lt_of_lt_of_le (lt_of_block HB.out) hk.size) hCb).trans ((hk.block b (lt_of_block HB.out) (fun e => e)).trans HB.out))
  go_wp2_with fail
  go_region_law (first
    | (refine step_append_sl2 _ rfl (.tmp 24) (.tmp 27) 29 rfl 49 j0 _ 1 24 Tryz.underlying29 hj0 kz0 kz1 kz2 rfl (by decide) (.slice aoC N caC) N cs (by kernel_rfl) (HC4.out.alloc _) ⟨w4.heap.size, 0, none⟩ 1 1 [.slice aox l.length cax] (by kernel_rfl) rfl (cells_new _ _ _ _) hone (by omega) b1 b2 ?_; intro g7 off7 cap7 w7 h1 h2 h3; have hb7 := HB7.out _ w7 (K4.out.alloc _) h2 HCB.out; have y7 := (cell_at hb7 1).trans (HA7.out _); have f7 := frozen_at hb7 1; have FIN := Lib.hid (ONE2.out w4 _ w7 _ FR.out ((Kept.refl (fun _ => False) w4).alloc _) g7 off7 cap7 h1 h2 h3); clear h1 h2 h3 hb7)
    | (go_simp; go_at_call 39; refine (COPY.out _ ((Kept.refl (fun _ => False) w3).drew)).mono ?_; rintro e w4 ⟨x, rfl, hfr⟩; have K4 := Lib.hid (((Kept.refl (fun _ => False) w3).drew).trans hfr.2.1 (fun _ _ h => h)); obtain ⟨aox, cax, rfl, _⟩ := (Rd.of_sl hfr.1).shape; have FR := Lib.hid (show Fresh w3 w4 9 1 l.length (.slice aox l.length cax) ((l).map Value.string) from ⟨hfr.1, K4.out, hfr.2.2⟩); have HC4 := Lib.hid (HC.out.kept K4.out (fun _ _ h => h)); have x7' := K4.out.cell0 x7; have x7b : (w4.alloc (.cells #[.slice aox l.length cax] 49)).cell? ⟨b, 1, none⟩ = _ := (cell_alloc_lt (World.block_lt_of_cell? _ ⟨b, 1, none⟩ x7')).trans x7'; have hone : ∀ u ∈ [Value.slice aox l.length cax], u.oneCell' = true := (by simp [Value.oneCell']); clear hfr))
  all_goals
    go_wp2_with fail
    go_end0
    exact ⟨rfl, FIN.out⟩
end Go.Proofs.YtekcjoogggoijaaGreatDoor
namespace Go.Proofs.YtekcjoogggoijaaGreatDoor
open Go.RowKit

theorem itemB_info : (Tryz.prog.info? 44).map (fun i => (i.zero, i.size, i.bytes)) = some (some (.agg #[.string ByteArray.empty, .string ByteArray.empty, .int .i64 0, .int .i64 0]), 4, 48) := by kernel_rfl
def markItemsE (i k : Nat) : It := (⟨ByteArray.empty, ByteArray.empty, -1000 * (i : Int) - (k : Int) - 1, 0⟩ : It)
def markItemsL (i n : Nat) : List It := (List.range n).map fun j => markItemsE i j
theorem markItemsL_length (i n : Nat) : (markItemsL i n).length = n := by simp [markItemsL]
def mkItems (i k : Nat) : List Value := ((markItemsE i k)).cells
theorem mkItems_length (i : Nat) : ∀ k, (mkItems i k).length = 4 := fun _ => rfl
theorem mkItems_one (i fr n : Nat) : ∀ u ∈ mkF (mkItems i) fr n, u.oneCell' = true := mkF_one (fun _ => by simp [mkItems, It.cells, Value.oneCell']) fr n
theorem flat_markItems (i n : Nat) : (flat (markItemsL i n)) = mkF (mkItems i) 0 n := by
  simp [flat, markItemsL, mkF, mkItems, List.flatMap_map]

set_option maxRecDepth 100000 in
set_option maxHeartbeats 1600000 in
theorem markItems_any (i fr n : Nat) (w : World) (hi : i ≤ 1000) (hf : fr ≤ 100000) (hn : n ≤ 100000) :
    Calls Tryz.prog 99 #[.int .i64 i, .int .i64 fr, .int .i64 n] w (FreshRet w 44 4 n (mkF (mkItems i) fr n)) := by
  obtain ⟨i0, hi0, hz0, hz1, hz2⟩ := info_parts itemB_info
  go_enter Tryz.func99, Tryz.ntmps99
  go_wp2_with fail
  go_loopg [7, 8] n (fun gk v k wr => ∃ j : Nat, j + gk = n ∧ k = .int .i64 ((fr + j : Nat) : Int) ∧ Fresh w wr 44 4 j v (mkF (mkItems i) fr j))
  case atStart => exact ⟨0, by omega, rfl, Fresh.nil (Kept.refl _ _)⟩
  case round =>
    obtain ⟨j, hj, rfl, hfr⟩ := hrel
    by_cases hlt : j < n
    · have NX := Lib.hid (mkF_succ (mkItems i) fr j)
      have hsl := hfr.1
      obtain ⟨aov, cav, rfl, _⟩ := (Rd.of_sl hsl).shape
      have APP := Lib.hid (fun (W w5 : World) (g off cap : Nat) (hk : Kept (fun _ => False) wr W) h1 h2 h3 => Fresh.push (g := g) (off := off) (cap := cap) (w2 := w5) (ys := mkF (mkItems i) fr j ++ mkItems i (fr + j)) (⟨hsl.kept hk (fun _ _ h => h), hfr.2.1.trans hk (fun _ _ h => h), hfr.2.2⟩ : Fresh w W 44 4 j (.slice aov j cav) (mkF (mkItems i) fr j)) h1 h2 h3)
      have hone : ∀ u ∈ ([.string ⟨#[]⟩, .string ⟨#[]⟩, .int .i64 (-1000 * (i : Int) - ((fr + j : Nat) : Int) - 1), .int .i64 0] : List Value), u.oneCell' = true := by simp [Value.oneCell']
      have b1 : j + 1 ≤ maxLen := by unfold maxLen; omega
      have b2 : (j + 1) * 48 ≤ 140737488355328 := by omega
      clear hfr
      go_wp2_with (at_builtin; refine wpList_append_sl _ rfl (.tmp 17) (.tmp 24) 45 rfl 44 i0 _ 4 48 Tryz.underlying45 hi0 hz0 hz1 hz2 rfl (by decide) _ j (mkF (mkItems i) fr j) rfl (hsl.kept ((Kept.refl (fun _ => False) wr).alloc _) (fun _ _ h => h)) ⟨wr.heap.size, 0, none⟩ 1 1 [.string ⟨#[]⟩, .string ⟨#[]⟩, .int .i64 (-1000 * (i : Int) - ((fr + j : Nat) : Int) - 1), .int .i64 0] rfl rfl (cells_new _ _ _ _) hone (by omega) b1 b2 ?_; intro g4 off4 cap w5 h1 h2 h3; have FIN := Lib.hid (APP.out _ w5 g4 off4 cap ((Kept.refl (fun _ => False) wr).alloc _) h1 h2 h3); clear h1 h2 h3)
      go_roundg (gk - 1)
      case measure => omega
      case rel => exact ⟨j + 1, by omega, by go_num, by rw [NX.out]; exact FIN.out⟩
    · obtain rfl : n = j := by omega
      go_wp2_with fail
      go_ret
      exact ⟨_, rfl, hfr⟩

set_option maxRecDepth 100000 in
set_option maxHeartbeats 1600000 in
theorem copyItems_any (v : Value) (l : List It) (w : World) (h : Rd w 4 l.length v (flat (l))) (hn : l.length ≤ 100000) :
    Calls Tryz.prog 43 #[v] w (FreshRet w 44 4 l.length (flat (l))) := by
  obtain ⟨i0, hi0, hz0, hz1, hz2⟩ := info_parts itemB_info
  obtain ⟨ao, ca, rfl, hca⟩ := h.shape
  by_cases h0 : l.length = 0
  · obtain rfl : l = [] := List.eq_nil_of_length_eq_zero h0
    simp only [List.length_nil] at hca ⊢
    clear h hn h0
    rcases ao with _ | a
    all_goals
      go_enter Tryz.func43, Tryz.ntmps43
      go_wp2_with fail
      go_ret
      exact ⟨_, rfl, Fresh.nil (Kept.refl _ _)⟩
  · obtain ⟨_, _, hc⟩ := h.at
    have hfl : (flat (l)).length = l.length * 4 := flat_length _
    obtain ⟨g, off, rfl⟩ : ∃ g off, ao = some ⟨g, off, none⟩ := by
      have hl : 0 < (flat (l)).length := by rw [hfl]; omega
      obtain ⟨g, off, e, _⟩ := hc 0 _ (List.getElem?_eq_getElem hl)
      exact ⟨g, off, e⟩
    have hcell : ∀ (j : Nat) (u : Value), (flat (l))[j]? = some u → w.cell? ((⟨g, off, none⟩ : Addr).add j) = some u := fun j u hu => by
      obtain ⟨g', off', e, h1⟩ := hc j u hu
      injection e with e
      injection e with e1 e2
      subst e1 e2
      rw [Addr.add_lit]
      exact h1
    have HC := Lib.hid hcell
    have H1 := Lib.hid (show ∀ u ∈ (flat (l)), u.oneCell' = true from flat_one l)
    have b1 : 0 + l.length ≤ maxLen := by unfold maxLen; omega
    have b2 : (0 + l.length) * 48 ≤ 140737488355328 := by omega
    have FR := Lib.hid (Fresh.nil (E := 44) (size := 4) (Kept.refl (fun _ => False) w))
    generalize (flat (l)) = xs at *
    generalize l.length = n at *
    clear h hc hcell
    go_enter Tryz.func43, Tryz.ntmps43
    go_wp2_with (at_builtin; refine wpList_append_sl _ rfl (.const (.slice none 0 0)) (.tmp 3) 45 rfl 44 i0 _ 4 48 Tryz.underlying45 hi0 hz0 hz1 hz2 rfl (by decide) (.slice none 0 0) 0 [] rfl (Sl.nil _ _ _) ⟨g, off, none⟩ n ca xs rfl hfl HC.out H1.out (by omega) b1 b2 ?_; intro g4 off4 cap w5 h1 h2 h3; have F1 := Lib.hid h1; have F2 := Lib.hid h2; have F3 := Lib.hid h3; clear h1 h2 h3)
    go_ret
    refine ⟨_, rfl, ?_, F2.out.mono (fun i _ e => by cases e), .inr ⟨g4, off4, cap, ?_, ?_⟩⟩
    · have := F1.out
      simpa using this
    · simp
    · exact F3.out.elim (fun e => by cases e) (fun e => e)
end Go.Proofs.YtekcjoogggoijaaGreatDoor
namespace Go.Proofs.YtekcjoogggoijaaGreatDoor
open Go.RowKit

/-- V: a slice of slices with these lists. -/
def ListsItems (w : World) (V : Value) (vs : List Value) (Ls : List (List It)) : Prop := Rd w 1 Ls.length V vs ∧ ∀ (i : Nat) (h : i < Ls.length), ∃ v, vs[i]? = some v ∧ Rd w 4 (Ls[i]).length v (flat (Ls[i]))
theorem ListsItems.at {w : World} {ao : Option Addr} {n c : Nat} {vs : List Value} {Ls : List (List It)} (h : ListsItems w (.slice ao n c) vs Ls) (i : Nat) (hi : i < Ls.length) :
    ∃ g off a m, ao = some ⟨g, off, none⟩ ∧ w.cell? ⟨g, off + i, none⟩ = some (.slice a (Ls[i]).length m) ∧ Rd w 4 (Ls[i]).length (.slice a (Ls[i]).length m) (flat (Ls[i])) := by
  obtain ⟨v, hv, hr⟩ := h.2 i hi
  obtain ⟨_, _, hc⟩ := h.1.at
  obtain ⟨g, off, rfl, hcell⟩ := hc i v hv
  obtain ⟨a, m, rfl, _⟩ := hr.shape
  exact ⟨g, off, a, m, rfl, hcell, hr⟩
theorem ListsItems.kept {w w' : World} {V : Value} {vs : List Value} {Ls : List (List It)} (h : ListsItems w V vs Ls) (hk : Kept (fun _ => False) w w') : ListsItems w' V vs Ls :=
  ⟨h.1.kept hk (fun _ _ h => h), fun i hi => by obtain ⟨v, hv, hr⟩ := h.2 i hi; exact ⟨v, hv, hr.kept hk (fun _ _ h => h)⟩⟩
theorem ListsItems.keptS {w w' : World} {S : Nat → Prop} {V : Value} {vs : List Value} {Ls : List (List It)} (h : ListsItems w V vs Ls) (hk : Kept S w w') (hV : ∀ k, V.ownBlock = some k → ¬ S k) (hv : ∀ v ∈ vs, ∀ k, v.ownBlock = some k → ¬ S k) : ListsItems w' V vs Ls :=
  ⟨h.1.kept hk hV, fun i hi => by obtain ⟨v, hv', hr⟩ := h.2 i hi; exact ⟨v, hv', hr.kept hk (hv v (List.mem_of_getElem? hv'))⟩⟩

set_option maxRecDepth 100000 in
set_option maxHeartbeats 1600000 in
theorem markedItems_true (V : Value) (vs : List Value) (Ls : List (List It)) (w : World) (h : ListsItems w V vs Ls) (hn : Ls.length ≤ 1000) (hm : ∀ (i : Nat) (h : i < Ls.length), Ls[i] = markItemsL i (Ls[i]).length) (hl : ∀ L ∈ Ls, L.length ≤ 100000) :
    Calls Tryz.prog 71 #[V] w fun e w' => e = .returned (.bool true) ∧ Kept (fun _ => False) w w' := by
  obtain ⟨ao, ca, rfl, hca⟩ := h.1.shape
  obtain ⟨n, hnn⟩ : ∃ n, n = Ls.length := ⟨_, rfl⟩
  rw [← hnn] at hn h ⊢
  have HN := Lib.hid hnn
  have HL := Lib.hid h
  have HM := Lib.hid hm
  have HZ := Lib.hid hl
  clear h hm hl hnn hca
  go_enter Tryz.func71, Tryz.ntmps71
  go_wp2_with fail
  go_loopg [3] n (fun gk k wr => ∃ i : Nat, i + gk = n ∧ k = .int .i64 (i : Int) ∧ Kept (fun _ => False) w wr)
  case atStart => exact ⟨0, by omega, rfl, Kept.refl _ _⟩
  case round =>
    obtain ⟨i, hi, rfl, hk⟩ := hrel
    have HK := Lib.hid hk
    clear hk
    by_cases hlt : i < n
    · have hil : i < Ls.length := HN.out ▸ hlt
      obtain ⟨g, off, a, m, rfl, x0, hr0⟩ := (HL.out.kept HK.out).at i hil
      have hz := HZ.out _ (List.getElem_mem hil)
      have hmk := HM.out i hil
      generalize (Ls[i]'hil) = L at *
      obtain ⟨z, hzz⟩ : ∃ z, z = L.length := ⟨_, rfl⟩
      rw [← hzz] at hmk
      rw [← hzz] at x0 hz hr0
      have HR0 := Lib.hid hr0
      clear hr0
      have MK := Lib.hid (fun (W : World) => (show Calls Tryz.prog 99 #[.int .i64 i, .int .i64 0, .int .i64 z] W (FreshRet W 44 4 z (flat (markItemsL i z))) from by rw [flat_markItems]; exact markItems_any i 0 z W (by omega) (by omega) hz))
      rw [← hmk] at MK
      have HZZ := Lib.hid hzz
      clear hzz hmk
      go_wp2_with fail
      go_region_with (first
        | (go_at_call 99; refine (MK.out _).mono ?_; rintro e w2 ⟨u, rfl, hfr⟩; have K2 := Lib.hid (((Kept.refl (fun _ => False) wr).drew).trans hfr.2.1 (fun _ _ h => h)); have y0 := K2.out.cell0 x0; obtain ⟨aou, cau, rfl, _⟩ := (Rd.of_sl hfr.1).shape; have hs := Rd.of_sl hfr.1; have SAME := Lib.hid (sameItems_true (.slice a z m) (.slice aou z cau) L w2 (by rw [← HZZ.out]; exact HR0.out.kept K2.out (fun _ _ h => h)) (by rw [← HZZ.out]; exact hs) (by rw [← HZZ.out]; omega)); clear hfr hs)
        | (go_at_call 15; refine SAME.out.mono ?_; rintro e w3 ⟨rfl, q, rfl⟩; have K3 := Lib.hid (K2.out.drewN q)))
      all_goals
        go_wp2_with fail
        go_roundg (gk - 1)
        case measure => omega
        case rel => exact ⟨i + 1, by omega, by go_num, HK.out.trans K3.out (fun _ _ h => h)⟩
    · go_wp2_with fail
      go_ret
      exact ⟨rfl, HK.out⟩

set_option maxRecDepth 100000 in
set_option maxHeartbeats 1600000 in
theorem stillItems_true (b : Nat) (V C : Value) (vs cs : List Value) (Ls : List (List It)) (w : World) (h6 : w.cell? ⟨b, 8, none⟩ = some V) (h7 : w.cell? ⟨b, 9, none⟩ = some C) (hV : ListsItems w V vs Ls) (hC : ListsItems w C cs Ls) (hn : Ls.length ≤ 1000) (hl : ∀ L ∈ Ls, L.length ≤ 100000) :
    Calls Tryz.prog 50 #[.pointer (some ⟨b, 0, none⟩)] w fun e w' => e = .returned (.bool true) ∧ Kept (fun _ => False) w w' := by
  obtain ⟨ao, ca, rfl, _⟩ := hV.1.shape
  obtain ⟨ao2, ca2, rfl, _⟩ := hC.1.shape
  obtain ⟨n, hnn⟩ : ∃ n, n = Ls.length := ⟨_, rfl⟩
  rw [← hnn] at hn h6 h7 hV hC
  have HN := Lib.hid hnn
  have HV := Lib.hid hV
  have HC := Lib.hid hC
  have HZ := Lib.hid hl
  have H6 := Lib.hid h6
  have H7 := Lib.hid h7
  clear hV hC hl hnn
  go_enter Tryz.func50, Tryz.ntmps50
  go_wp2_with fail
  go_loopg [3] n (fun gk k wr => ∃ i : Nat, i + gk = n ∧ k = .int .i64 (i : Int) ∧ Kept (fun _ => False) w wr)
  case atStart => exact ⟨0, by omega, rfl, Kept.refl _ _⟩
  case round =>
    obtain ⟨i, hi, rfl, hk⟩ := hrel
    have HK := Lib.hid hk
    have x6 := hk.cell0 H6.out
    have x7 := hk.cell0 H7.out
    clear hk h6 h7
    by_cases hlt : i < n
    · have hil : i < Ls.length := HN.out ▸ hlt
      obtain ⟨g, off, a, m, rfl, x0, hr0⟩ := (HV.out.kept HK.out).at i hil
      obtain ⟨g', off', a', m', rfl, y0, hr1⟩ := (HC.out.kept HK.out).at i hil
      have hz := HZ.out _ (List.getElem_mem hil)
      generalize (Ls[i]'hil) = L at *
      have SAME := Lib.hid (fun (W : World) (hW : Kept (fun _ => False) wr W) => sameItems_true (.slice a L.length m) (.slice a' L.length m') L W (hr0.kept hW (fun _ _ h => h)) (hr1.kept hW (fun _ _ h => h)) (by omega))
      clear hr0 hr1
      go_wp2_with fail
      go_region_with (go_at_call 15; refine (SAME.out _ ((Kept.refl (fun _ => False) wr).drew)).mono ?_; rintro e w3 ⟨rfl, q, rfl⟩)
      all_goals
        go_wp2_with fail
        go_roundg (gk - 1)
        case measure => omega
        case rel => exact ⟨i + 1, by omega, by go_num, HK.out.trans ((Kept.refl (fun _ => False) wr).drewN _) (fun _ _ h => h)⟩
    · go_wp2_with fail
      go_ret
      exact ⟨rfl, HK.out⟩
end Go.Proofs.YtekcjoogggoijaaGreatDoor
