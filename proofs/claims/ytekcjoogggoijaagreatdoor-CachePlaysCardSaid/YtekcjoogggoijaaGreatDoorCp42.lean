/-
  The Book's items: one more list and its copy.
-/
import Derived.Test.YtekcjoogggoijaaGreatDoorCp36
import Derived.Test.YtekcjoogggoijaaGreatDoorCp41
import Derived.Deep.RegionLaw
import Derived.Test.YtekcjoogggoijaaGreatDoorCp38
set_option linter.unusedVariables false
set_option linter.unusedSimpArgs false
set_option linter.unnecessarySimpa false
namespace Go.Proofs.YtekcjoogggoijaaGreatDoor
open Go.RowKit

set_option maxRecDepth 100000 in
set_option maxHeartbeats 4000000 in
theorem keepTexts_any2 (b : Nat) (arr : Array Value) (F1 F2 : Nat → Prop) (N : Nat) (V C : Value) (vs cs : List Value) (len : Nat → Nat) (con : Nat → List Value) (u : Value) (l : List ByteArray) (w : World) (h : Kb w 49 9 1 F1 F2 N V C vs cs len con) (hb : w.heap[b]? = some (.cells arr 37 (0, 0)))
    (ha6 : arr[0]? = some V) (ha7 : arr[1]? = some C) (hF1 : ¬ F1 b) (hF2 : ¬ F2 b) (hu : Sl w 9 1 l.length u ((l).map Value.string)) (hf : ∀ k, u.ownBlock = some k → ¬ F1 k ∧ ¬ F2 k ∧ k ≠ b) (hn : N < 250) (hl : l.length ≤ 100000) :
    Calls Tryz.prog 10 #[.pointer (some ⟨b, 0, none⟩), u] w fun e w' => e = .returned (.tuple #[]) ∧ KeptOne2 V C w w' 49 9 1 37 b arr 0 1 F1 F2 N u l.length ((l).map Value.string) len con := by
  obtain ⟨j0, hj0, kz0, kz1, kz2⟩ := info_parts listsTexts_info
  obtain ⟨aoV, caV, rfl, _⟩ := (Rd.of_sl h.v.row).shape
  obtain ⟨aoC, caC, rfl, _⟩ := (Rd.of_sl h.c.row).shape
  obtain ⟨aou, cau, rfl, _⟩ := (Rd.of_sl hu).shape
  have x6 := (cell_at hb 0).trans ha6
  have x7 := (cell_at hb 1).trans ha7
  have f6 := frozen_at hb 0
  have HV := Lib.hid h.v.row
  have ONE := Lib.hid (fun (wa wb : World) (g off cap : Nat) (hk : Kept (fun _ => False) w wa) h1 h2 h3 (w4 wc wd : World) (x : Value) hx (hk4 : Kept (fun _ => False) w4 wc) (g' off' cap' : Nat) k1 k2 k3 => Kb.one2 h hb hF1 hF2 hu hf hk (wb := wb) (g := g) (off := off) (cap := cap) (o1 := 0) (o2 := 1) h1 h2 h3 (fun _ => trivial) (x := x) hx hk4 (wd := wd) (g' := g') (off' := off') (cap' := cap') k1 k2 k3)
  have HALF := Lib.hid (fun (wa wb : World) (g off cap : Nat) (hk : Kept (fun _ => False) w wa) h1 h2 h3 => h.v.keep hb hF1 hu (fun k hk => ⟨(hf k hk).1, (hf k hk).2.2⟩) hk (w2 := wb) (g := g) (off := off) (cap := cap) h1 h2 h3 0)
  have hUk : ∀ w3 : World, Kept (fun k => k = b ∨ F1 k) w w3 → Rd w3 1 l.length (.slice aou l.length cau) ((l).map Value.string) ∧ Sl w3 49 1 N (.slice aoC N caC) cs := fun w3 hk => ⟨(Rd.of_sl hu).kept hk (fun k hk hh => hh.elim (hf k hk).2.2 (hf k hk).1), h.c.row.kept hk (fun k hk hh => by
    have hkF := h.c.rowF k hk
    rcases hh with rfl | hh
    · exact hF2 hkF
    · exact h.dis k hh hkF)⟩
  have UK := Lib.hid hUk
  have HA7 := Lib.hid (show ∀ v, (arr.setIfInBounds 0 v)[1]? = some (.slice aoC N caC) from fun v => by rw [Array.getElem?_setIfInBounds_ne (by omega)]; exact ha7)
  have HB6 := Lib.hid (fun (wa wb : World) (hk : Kept (fun _ => False) w wa) (h2 : Kept (fun k => (Value.slice aoV N caV).ownBlock = some k) wa wb) => show wb.heap[b]? = some (.cells arr 37 (0, 0)) from (h2.block b (Nat.lt_of_lt_of_le (lt_of_block hb) hk.size) (fun e => hF1 (h.v.rowF b e))).trans ((hk.block b (lt_of_block hb) (fun e => e)).trans hb))
  have HA6 := Lib.hid ha6
  have HCB := Lib.hid (show (Value.slice aoC N caC).ownBlock ≠ some b from fun e => hF2 (h.c.rowF b e))
  clear hUk h hb ha6 ha7 hF1 hF2 hu hf
  have b1 : N + 1 ≤ maxLen := by unfold maxLen; omega
  have b2 : (N + 1) * 24 ≤ 140737488355328 := by omega
  go_enter Tryz.func10, Tryz.ntmps10
  go_wp2_with (at_builtin; refine wpList_append_sl2 _ rfl (.tmp 14) (.tmp 16) 29 rfl 49 j0 _ 1 24 Tryz.underlying29 hj0 kz0 kz1 kz2 rfl (by decide) _ N vs rfl (HV.out.alloc _) ⟨w.heap.size, 0, none⟩ 1 1 [.slice aou l.length cau] rfl rfl (cells_new _ _ _ _) (by simp [Value.oneCell']) (by omega) b1 b2 ?_; intro g6 off6 cap6 w6 h1 h2 h3; have hb6 := HB6.out _ w6 ((Kept.refl (fun _ => False) w).alloc _) h2; have y6 := (cell_at hb6 0).trans HA6.out; have f6' := frozen_at hb6 0; have HH := Lib.hid (HALF.out _ w6 g6 off6 cap6 ((Kept.refl (fun _ => False) w).alloc _) h1 h2 h3); have ONE2 := Lib.hid (ONE.out _ w6 g6 off6 cap6 ((Kept.refl (fun _ => False) w).alloc _) h1 h2 h3); clear h1 h2 h3 hb6 x6 x7 f6)
  obtain ⟨G1, a1, a2, a3, a4, a5⟩ := HH.out
  have uk := UK.out _ a4
  clear HH ONE HALF a1 a3 a4 a5 y6 f6' UK HB6
  generalize w6.setCell ⟨b, 0, none⟩ (.slice (some ⟨g6, off6, none⟩) (N + 1) cap6) = w3 at *
  have x7 := (cell_at a2 1).trans (HA7.out _)
  have hrd := Lib.hid uk.1
  have COPY := Lib.hid (fun (W : World) (hk : Kept (fun _ => False) w3 W) => copyTexts_any (.slice aou l.length cau) l W (uk.1.kept hk (fun _ _ h => h)) hl)
  have HC := Lib.hid uk.2
  have HB := Lib.hid a2
  clear uk a2
  have HB7 := Lib.hid (fun (wc wd : World) (hk : Kept (fun _ => False) w3 wc) (h2 : Kept (fun k => (Value.slice aoC N caC).ownBlock = some k) wc wd) (hCb : (Value.slice aoC N caC).ownBlock ≠ some b) => (h2.block b (Nat.lt_of_lt_of_le (lt_of_block HB.out) hk.size) hCb).trans ((hk.block b (lt_of_block HB.out) (fun e => e)).trans HB.out))
  go_wp2_with fail
  go_region_law (first
    | (refine step_append_sl2 _ rfl (.tmp 24) (.tmp 27) 29 rfl 49 j0 _ 1 24 Tryz.underlying29 hj0 kz0 kz1 kz2 rfl (by decide) (.slice aoC N caC) N cs (by kernel_rfl) (HC4.out.alloc _) ⟨w4.heap.size, 0, none⟩ 1 1 [.slice aox l.length cax] (by kernel_rfl) rfl (cells_new _ _ _ _) hone (by omega) b1 b2 ?_; intro g7 off7 cap7 w7 h1 h2 h3; have hb7 := HB7.out _ w7 (K4.out.alloc _) h2 HCB.out; have y7 := (cell_at hb7 1).trans (HA7.out _); have f7 := frozen_at hb7 1; have FIN := Lib.hid (ONE2.out w4 _ w7 _ FR.out ((Kept.refl (fun _ => False) w4).alloc _) g7 off7 cap7 h1 h2 h3); clear h1 h2 h3 hb7)
    | (go_simp; go_at_call 39; refine (COPY.out _ ((Kept.refl (fun _ => False) w3).drew)).mono ?_; rintro e w4 ⟨x, rfl, hfr⟩; have K4 := Lib.hid (((Kept.refl (fun _ => False) w3).drew).trans hfr.2.1 (fun _ _ h => h)); obtain ⟨aox, cax, rfl, _⟩ := (Rd.of_sl hfr.1).shape; have FR := Lib.hid (show Fresh w3 w4 9 1 l.length (.slice aox l.length cax) ((l).map Value.string) from ⟨hfr.1, K4.out, hfr.2.2⟩); have HC4 := Lib.hid (HC.out.kept K4.out (fun _ _ h => h)); have x7' := K4.out.cell0 x7; have x7b : (w4.alloc (.cells #[.slice aox l.length cax] 49)).cell? ⟨b, 1, none⟩ = _ := (cell_alloc_lt (World.block_lt_of_cell? _ ⟨b, 1, none⟩ x7')).trans x7'; have hone : ∀ u ∈ [Value.slice aox l.length cax], u.oneCell' = true := (by simp [Value.oneCell']); clear hfr))
  all_goals
    go_wp2_with fail
    go_end0
    exact ⟨rfl, FIN.out⟩
end Go.Proofs.YtekcjoogggoijaaGreatDoor
namespace Go.Proofs.YtekcjoogggoijaaGreatDoor
open Go.RowKit

set_option maxRecDepth 100000 in
set_option maxHeartbeats 4000000 in
theorem keepItems_any2 (b : Nat) (arr : Array Value) (F1 F2 : Nat → Prop) (N : Nat) (V C : Value) (vs cs : List Value) (len : Nat → Nat) (con : Nat → List Value) (u : Value) (l : List It) (w : World) (h : Kb w 45 44 4 F1 F2 N V C vs cs len con) (hb : w.heap[b]? = some (.cells arr 37 (0, 0)))
    (ha6 : arr[8]? = some V) (ha7 : arr[9]? = some C) (hF1 : ¬ F1 b) (hF2 : ¬ F2 b) (hu : Sl w 44 4 l.length u (flat (l))) (hf : ∀ k, u.ownBlock = some k → ¬ F1 k ∧ ¬ F2 k ∧ k ≠ b) (hn : N < 250) (hl : l.length ≤ 100000) :
    Calls Tryz.prog 13 #[.pointer (some ⟨b, 0, none⟩), u] w fun e w' => e = .returned (.tuple #[]) ∧ KeptOne2 V C w w' 45 44 4 37 b arr 8 9 F1 F2 N u l.length (flat (l)) len con := by
  obtain ⟨j0, hj0, kz0, kz1, kz2⟩ := info_parts listsItems_info
  obtain ⟨aoV, caV, rfl, _⟩ := (Rd.of_sl h.v.row).shape
  obtain ⟨aoC, caC, rfl, _⟩ := (Rd.of_sl h.c.row).shape
  obtain ⟨aou, cau, rfl, _⟩ := (Rd.of_sl hu).shape
  have x6 := (cell_at hb 8).trans ha6
  have x7 := (cell_at hb 9).trans ha7
  have f6 := frozen_at hb 8
  have HV := Lib.hid h.v.row
  have ONE := Lib.hid (fun (wa wb : World) (g off cap : Nat) (hk : Kept (fun _ => False) w wa) h1 h2 h3 (w4 wc wd : World) (x : Value) hx (hk4 : Kept (fun _ => False) w4 wc) (g' off' cap' : Nat) k1 k2 k3 => Kb.one2 h hb hF1 hF2 hu hf hk (wb := wb) (g := g) (off := off) (cap := cap) (o1 := 8) (o2 := 9) h1 h2 h3 (fun _ => trivial) (x := x) hx hk4 (wd := wd) (g' := g') (off' := off') (cap' := cap') k1 k2 k3)
  have HALF := Lib.hid (fun (wa wb : World) (g off cap : Nat) (hk : Kept (fun _ => False) w wa) h1 h2 h3 => h.v.keep hb hF1 hu (fun k hk => ⟨(hf k hk).1, (hf k hk).2.2⟩) hk (w2 := wb) (g := g) (off := off) (cap := cap) h1 h2 h3 8)
  have hUk : ∀ w3 : World, Kept (fun k => k = b ∨ F1 k) w w3 → Rd w3 4 l.length (.slice aou l.length cau) (flat (l)) ∧ Sl w3 45 1 N (.slice aoC N caC) cs := fun w3 hk => ⟨(Rd.of_sl hu).kept hk (fun k hk hh => hh.elim (hf k hk).2.2 (hf k hk).1), h.c.row.kept hk (fun k hk hh => by
    have hkF := h.c.rowF k hk
    rcases hh with rfl | hh
    · exact hF2 hkF
    · exact h.dis k hh hkF)⟩
  have UK := Lib.hid hUk
  have HA7 := Lib.hid (show ∀ v, (arr.setIfInBounds 8 v)[9]? = some (.slice aoC N caC) from fun v => by rw [Array.getElem?_setIfInBounds_ne (by omega)]; exact ha7)
  have HB6 := Lib.hid (fun (wa wb : World) (hk : Kept (fun _ => False) w wa) (h2 : Kept (fun k => (Value.slice aoV N caV).ownBlock = some k) wa wb) => show wb.heap[b]? = some (.cells arr 37 (0, 0)) from (h2.block b (Nat.lt_of_lt_of_le (lt_of_block hb) hk.size) (fun e => hF1 (h.v.rowF b e))).trans ((hk.block b (lt_of_block hb) (fun e => e)).trans hb))
  have HA6 := Lib.hid ha6
  have HCB := Lib.hid (show (Value.slice aoC N caC).ownBlock ≠ some b from fun e => hF2 (h.c.rowF b e))
  clear hUk h hb ha6 ha7 hF1 hF2 hu hf
  have b1 : N + 1 ≤ maxLen := by unfold maxLen; omega
  have b2 : (N + 1) * 24 ≤ 140737488355328 := by omega
  go_enter Tryz.func13, Tryz.ntmps13
  go_wp2_with (at_builtin; refine wpList_append_sl2 _ rfl (.tmp 14) (.tmp 16) 33 rfl 45 j0 _ 1 24 Tryz.underlying33 hj0 kz0 kz1 kz2 rfl (by decide) _ N vs rfl (HV.out.alloc _) ⟨w.heap.size, 0, none⟩ 1 1 [.slice aou l.length cau] rfl rfl (cells_new _ _ _ _) (by simp [Value.oneCell']) (by omega) b1 b2 ?_; intro g6 off6 cap6 w6 h1 h2 h3; have hb6 := HB6.out _ w6 ((Kept.refl (fun _ => False) w).alloc _) h2; have y6 := (cell_at hb6 8).trans HA6.out; have f6' := frozen_at hb6 8; have HH := Lib.hid (HALF.out _ w6 g6 off6 cap6 ((Kept.refl (fun _ => False) w).alloc _) h1 h2 h3); have ONE2 := Lib.hid (ONE.out _ w6 g6 off6 cap6 ((Kept.refl (fun _ => False) w).alloc _) h1 h2 h3); clear h1 h2 h3 hb6 x6 x7 f6)
  obtain ⟨G1, a1, a2, a3, a4, a5⟩ := HH.out
  have uk := UK.out _ a4
  clear HH ONE HALF a1 a3 a4 a5 y6 f6' UK HB6
  generalize w6.setCell ⟨b, 8, none⟩ (.slice (some ⟨g6, off6, none⟩) (N + 1) cap6) = w3 at *
  have x7 := (cell_at a2 9).trans (HA7.out _)
  have hrd := Lib.hid uk.1
  have COPY := Lib.hid (fun (W : World) (hk : Kept (fun _ => False) w3 W) => copyItems_any (.slice aou l.length cau) l W (uk.1.kept hk (fun _ _ h => h)) hl)
  have HC := Lib.hid uk.2
  have HB := Lib.hid a2
  clear uk a2
  have HB7 := Lib.hid (fun (wc wd : World) (hk : Kept (fun _ => False) w3 wc) (h2 : Kept (fun k => (Value.slice aoC N caC).ownBlock = some k) wc wd) (hCb : (Value.slice aoC N caC).ownBlock ≠ some b) => (h2.block b (Nat.lt_of_lt_of_le (lt_of_block HB.out) hk.size) hCb).trans ((hk.block b (lt_of_block HB.out) (fun e => e)).trans HB.out))
  go_wp2_with fail
  go_region_law (first
    | (refine step_append_sl2 _ rfl (.tmp 24) (.tmp 27) 33 rfl 45 j0 _ 1 24 Tryz.underlying33 hj0 kz0 kz1 kz2 rfl (by decide) (.slice aoC N caC) N cs (by kernel_rfl) (HC4.out.alloc _) ⟨w4.heap.size, 0, none⟩ 1 1 [.slice aox l.length cax] (by kernel_rfl) rfl (cells_new _ _ _ _) hone (by omega) b1 b2 ?_; intro g7 off7 cap7 w7 h1 h2 h3; have hb7 := HB7.out _ w7 (K4.out.alloc _) h2 HCB.out; have y7 := (cell_at hb7 9).trans (HA7.out _); have f7 := frozen_at hb7 9; have FIN := Lib.hid (ONE2.out w4 _ w7 _ FR.out ((Kept.refl (fun _ => False) w4).alloc _) g7 off7 cap7 h1 h2 h3); clear h1 h2 h3 hb7)
    | (go_simp; go_at_call 43; refine (COPY.out _ ((Kept.refl (fun _ => False) w3).drew)).mono ?_; rintro e w4 ⟨x, rfl, hfr⟩; have K4 := Lib.hid (((Kept.refl (fun _ => False) w3).drew).trans hfr.2.1 (fun _ _ h => h)); obtain ⟨aox, cax, rfl, _⟩ := (Rd.of_sl hfr.1).shape; have FR := Lib.hid (show Fresh w3 w4 44 4 l.length (.slice aox l.length cax) (flat (l)) from ⟨hfr.1, K4.out, hfr.2.2⟩); have HC4 := Lib.hid (HC.out.kept K4.out (fun _ _ h => h)); have x7' := K4.out.cell0 x7; have x7b : (w4.alloc (.cells #[.slice aox l.length cax] 45)).cell? ⟨b, 9, none⟩ = _ := (cell_alloc_lt (World.block_lt_of_cell? _ ⟨b, 9, none⟩ x7')).trans x7'; have hone : ∀ u ∈ [Value.slice aox l.length cax], u.oneCell' = true := (by simp [Value.oneCell']); clear hfr))
  all_goals
    go_wp2_with fail
    go_end0
    exact ⟨rfl, FIN.out⟩
end Go.Proofs.YtekcjoogggoijaaGreatDoor
