/-
  The Book's Apart, of a Book with notes alone.
-/
import Derived.Test.YthchacmkeppjcaaBookNotesG
import Derived.Test.YthchacmkeppjcaaBookNilNotes
namespace Go.Proofs.Ythchacmkeppjcaa
set_option linter.unusedVariables false
set_option linter.unusedSimpArgs false
set_option linter.unnecessarySimpa false
open Go.RowKit

/-- The cells of a Book's block that holds notes alone. -/
def BookCells (W : World) (b : Nat) (V C : Value) : Prop := W.cell? ⟨b, 0, none⟩ = some (.slice none 0 0) ∧ W.cell? ⟨b, 2, none⟩ = some (.slice none 0 0) ∧ W.cell? ⟨b, 4, none⟩ = some (.slice none 0 0) ∧ W.cell? ⟨b, 8, none⟩ = some (.slice none 0 0) ∧ W.cell? ⟨b, 10, none⟩ = some (.slice none 0 0) ∧ W.cell? ⟨b, 12, none⟩ = some (.slice none 0 0) ∧ W.cell? ⟨b, 6, none⟩ = some V ∧ W.cell? ⟨b, 7, none⟩ = some C

theorem lists_of {w : World} {T : TypeId} {F : Nat → Prop} {V : Value} {vs : List Value} {Ls : List (List Note)} {N : Nat} {len : Nat → Nat} {con : Nat → List Value} (h : Kd w T 38 4 F N V vs len con) (hN : N = Ls.length) (hc : ∀ (i : Nat) (hi : i < Ls.length), len i = (Ls[i]).length ∧ con i = flat Ls[i]) : Lists w V vs Ls := by
  subst hN
  refine ⟨Rd.of_sl h.row, fun i hi => ?_⟩
  obtain ⟨v, hv, hs, _⟩ := h.item i hi
  rw [(hc i hi).1, (hc i hi).2] at hs
  exact ⟨v, hv, Rd.of_sl hs⟩
def marksOf (N ext : Nat) (len : Nat → Nat) : List (List Note) := (List.range N).map fun j => markL j 0 (len j + ext)
theorem marksOf_length (N ext : Nat) (len : Nat → Nat) : (marksOf N ext len).length = N := by simp [marksOf]
theorem marksOf_at (N ext : Nat) (len : Nat → Nat) (i : Nat) (h : i < (marksOf N ext len).length) : (marksOf N ext len)[i] = markL i 0 (len i + ext) := by simp [marksOf]
theorem marksOf_self (N ext : Nat) (len : Nat → Nat) (i : Nat) (h : i < (marksOf N ext len).length) : (marksOf N ext len)[i] = markL i 0 ((marksOf N ext len)[i]).length := by rw [marksOf_at, markL_length]
theorem marksOf_le (N ext : Nat) (len : Nat → Nat) (m : Nat) (hl : ∀ i, i < N → len i ≤ m) : ∀ L ∈ marksOf N ext len, L.length ≤ m + ext := by
  intro L hL
  obtain ⟨j, hj, rfl⟩ := List.mem_map.1 hL
  rw [markL_length]
  have := hl j (List.mem_range.1 hj)
  omega
theorem lists_grown {w0 wr : World} {T : TypeId} {F : Nat → Prop} {N : Nat} {V : Value} {vs : List Value} {len : Nat → Nat} {ext : Nat} {out : Value} {os : List Value} (h : Gr w0 wr T 38 4 F N V vs len mkN ext N out os) : Lists wr out os (marksOf N ext len) ∧ Lists wr V vs (marksOf N 0 len) := by
  refine ⟨⟨by rw [marksOf_length]; exact Rd.of_sl h.orow, fun i hi => ?_⟩, ⟨by rw [marksOf_length]; exact Rd.of_sl h.row, fun i hi => ?_⟩⟩
  · rw [marksOf_length] at hi
    obtain ⟨u, _, hu, _, hs, _⟩ := h.ol i hi
    refine ⟨u, hu, ?_⟩
    rw [marksOf_at, markL_length, flat_markL]
    exact Rd.of_sl hs
  · rw [marksOf_length] at hi
    obtain ⟨u, hu, hs⟩ := h.list i hi
    refine ⟨u, hu, ?_⟩
    rw [marksOf_at, markL_length, flat_markL]
    exact Rd.of_sl hs

set_option maxRecDepth 100000 in
set_option maxHeartbeats 16000000 in
theorem apart_any (b : Nat) (F1 F2 : Nat → Prop) (N : Nat) (V C : Value) (vs cs : List Value) (len : Nat → Nat) (con : Nat → List Value) (Ls : List (List Note)) (w : World) (h : Kb w 22 38 4 F1 F2 N V C vs cs len con) (hN : N = Ls.length) (hc : ∀ (i : Nat) (hi : i < Ls.length), len i = (Ls[i]).length ∧ con i = flat Ls[i])
    (hb : BookCells w b V C) (hF1 : ¬ F1 b) (hn : N ≤ 1000) (hl : ∀ i, i < N → len i ≤ 90000) (hl2 : ∀ L ∈ Ls, L.length ≤ 90000) :
    Calls Try.prog 15 #[.pointer (some ⟨b, 0, none⟩)] w fun e w' => e = .returned (.bool true) ∧ Kept F1 w w' := by
  have hcells : ∀ W, Kept F1 w W → BookCells W b V C := fun W hk => by
    obtain ⟨c0, c2, c4, c8, c10, c12, c6, c7⟩ := hb
    exact ⟨(hk.cell (World.block_lt_of_cell? w _ c0) hF1).trans c0, (hk.cell (World.block_lt_of_cell? w _ c2) hF1).trans c2, (hk.cell (World.block_lt_of_cell? w _ c4) hF1).trans c4, (hk.cell (World.block_lt_of_cell? w _ c8) hF1).trans c8, (hk.cell (World.block_lt_of_cell? w _ c10) hF1).trans c10, (hk.cell (World.block_lt_of_cell? w _ c12) hF1).trans c12, (hk.cell (World.block_lt_of_cell? w _ c6) hF1).trans c6, (hk.cell (World.block_lt_of_cell? w _ c7) hF1).trans c7⟩
  have HCELL := Lib.hid hcells
  have HV := Lib.hid (lists_of h.v hN hc)
  have HC := Lib.hid (lists_of h.c hN hc)
  have HKD := Lib.hid h.v
  have HF := Lib.hid hF1
  have HL := Lib.hid hl
  have HL2 := Lib.hid (show ∀ L ∈ Ls, L.length ≤ 100000 from fun L hL => Nat.le_trans (hl2 L hL) (by omega))
  have HN := Lib.hid (show Ls.length ≤ 1000 by omega)
  obtain ⟨c0, c2, c4, c8, c10, c12, c6, c7⟩ := hb
  clear h hN hc hcells hF1 hl hl2
  go_enter Try.func15, Try.ntmps15
  go_wp2_with (first
    | (go_at_call 23; refine (stillNotes_true b V C vs cs Ls _ c6 c7 HV.out HC.out HN.out HL2.out).mono ?_; rintro e w1 ⟨rfl, hk1⟩; have K1 := Lib.hid hk1; obtain ⟨d0, d2, d4, d8, d10, d12, d6, d7⟩ := HCELL.out _ (hk1.mono (fun _ _ h => h.elim)); clear hk1 c0 c2 c4 c8 c10 c12 c6 c7)
    | (go_at_call 31; refine (putNotes_any b F1 N V vs len con _ d6 HF.out (HKD.out.kept K1.out (fun _ _ h => h)) hn (fun i hi => Nat.le_trans (HL.out i hi) (by omega))).mono ?_; rintro e w2 ⟨rfl, hkd2, hk2⟩; have K2 := Lib.hid ((K1.out.mono (fun _ _ h => h.elim)).trans hk2 (fun _ _ h => h)); have D2 := Lib.hid hkd2; obtain ⟨e0, e2, e4, e8, e10, e12, e6, e7⟩ := HCELL.out _ K2.out; clear hk2 hkd2 d0 d2 d4 d8 d10 d12 d6 d7)
    | (go_at_call 37; refine (growNotes_any b F1 N V vs len _ e6 HF.out D2.out hn HL.out).mono ?_; rintro e w3 ⟨out, os, rfl, hgr⟩; have K3 := Lib.hid (K2.out.trans hgr.kept (fun _ _ h => h)); have GR := Lib.hid (lists_grown hgr); obtain ⟨f0, f2, f4, f8, f10, f12, f6, f7⟩ := HCELL.out _ K3.out; clear hgr e0 e2 e4 e8 e10 e12 e6 e7)
    | (go_at_call 44; refine (markedNotes_true _ _ _ _ GR4.out (by rw [marksOf_length]; exact hn) (marksOf_self _ _ _) (fun L hL => Nat.le_trans (marksOf_le N 0 len 90000 HL.out L hL) (by omega))).mono ?_; rintro e w5 ⟨rfl, hk5⟩; have K5 := Lib.hid (K4.out.trans hk5 (fun _ _ h => h.elim)); obtain ⟨h0, h2, h4, h8, h10, h12, h6, h7⟩ := HCELL.out _ K5.out; clear hk5 g0 g2 g4 g8 g10 g12 g6 g7)
    | (go_at_call 44; refine (markedNotes_true _ _ _ _ GR.out.1 (by rw [marksOf_length]; exact hn) (marksOf_self _ _ _) (fun L hL => Nat.le_trans (marksOf_le N 72 len 90000 HL.out L hL) (by omega))).mono ?_; rintro e w4 ⟨rfl, hk4⟩; have K4 := Lib.hid (K3.out.trans hk4 (fun _ _ h => h.elim)); have GR4 := Lib.hid (GR.out.2.kept hk4); obtain ⟨g0, g2, g4, g8, g10, g12, g6, g7⟩ := HCELL.out _ K4.out; clear hk4 f0 f2 f4 f8 f10 f12 f6 f7)
    | (go_at_call 41; refine (markedTexts_nil _).mono ?_; rintro e w9 ⟨rfl, rfl⟩)
    | (go_at_call 20; refine (stillTexts_nil b _ c0).mono ?_; rintro e w9 ⟨rfl, rfl⟩)
    | (go_at_call 20; refine (stillTexts_nil b _ d0).mono ?_; rintro e w9 ⟨rfl, rfl⟩)
    | (go_at_call 28; refine (putTexts_nil b _ d0).mono ?_; rintro e w9 ⟨rfl, rfl⟩)
    | (go_at_call 28; refine (putTexts_nil b _ e0).mono ?_; rintro e w9 ⟨rfl, rfl⟩)
    | (go_at_call 34; refine (growTexts_nil b _ e0).mono ?_; rintro e w9 ⟨rfl, rfl⟩)
    | (go_at_call 34; refine (growTexts_nil b _ f0).mono ?_; rintro e w9 ⟨rfl, rfl⟩)
    | (go_at_call 42; refine (markedInts_nil _).mono ?_; rintro e w9 ⟨rfl, rfl⟩)
    | (go_at_call 21; refine (stillInts_nil b _ c2).mono ?_; rintro e w9 ⟨rfl, rfl⟩)
    | (go_at_call 21; refine (stillInts_nil b _ d2).mono ?_; rintro e w9 ⟨rfl, rfl⟩)
    | (go_at_call 29; refine (putInts_nil b _ d2).mono ?_; rintro e w9 ⟨rfl, rfl⟩)
    | (go_at_call 29; refine (putInts_nil b _ e2).mono ?_; rintro e w9 ⟨rfl, rfl⟩)
    | (go_at_call 35; refine (growInts_nil b _ e2).mono ?_; rintro e w9 ⟨rfl, rfl⟩)
    | (go_at_call 35; refine (growInts_nil b _ f2).mono ?_; rintro e w9 ⟨rfl, rfl⟩)
    | (go_at_call 43; refine (markedRules_nil _).mono ?_; rintro e w9 ⟨rfl, rfl⟩)
    | (go_at_call 22; refine (stillRules_nil b _ c4).mono ?_; rintro e w9 ⟨rfl, rfl⟩)
    | (go_at_call 22; refine (stillRules_nil b _ d4).mono ?_; rintro e w9 ⟨rfl, rfl⟩)
    | (go_at_call 30; refine (putRules_nil b _ d4).mono ?_; rintro e w9 ⟨rfl, rfl⟩)
    | (go_at_call 30; refine (putRules_nil b _ e4).mono ?_; rintro e w9 ⟨rfl, rfl⟩)
    | (go_at_call 36; refine (growRules_nil b _ e4).mono ?_; rintro e w9 ⟨rfl, rfl⟩)
    | (go_at_call 36; refine (growRules_nil b _ f4).mono ?_; rintro e w9 ⟨rfl, rfl⟩)
    | (go_at_call 45; refine (markedItems_nil _).mono ?_; rintro e w9 ⟨rfl, rfl⟩)
    | (go_at_call 24; refine (stillItems_nil b _ c8).mono ?_; rintro e w9 ⟨rfl, rfl⟩)
    | (go_at_call 24; refine (stillItems_nil b _ d8).mono ?_; rintro e w9 ⟨rfl, rfl⟩)
    | (go_at_call 32; refine (putItems_nil b _ d8).mono ?_; rintro e w9 ⟨rfl, rfl⟩)
    | (go_at_call 32; refine (putItems_nil b _ e8).mono ?_; rintro e w9 ⟨rfl, rfl⟩)
    | (go_at_call 38; refine (growItems_nil b _ e8).mono ?_; rintro e w9 ⟨rfl, rfl⟩)
    | (go_at_call 38; refine (growItems_nil b _ f8).mono ?_; rintro e w9 ⟨rfl, rfl⟩)
    | (go_at_call 46; refine (markedCommands_nil _).mono ?_; rintro e w9 ⟨rfl, rfl⟩)
    | (go_at_call 25; refine (stillCommands_nil b _ c10).mono ?_; rintro e w9 ⟨rfl, rfl⟩)
    | (go_at_call 25; refine (stillCommands_nil b _ d10).mono ?_; rintro e w9 ⟨rfl, rfl⟩)
    | (go_at_call 33; refine (putCommands_nil b _ d10).mono ?_; rintro e w9 ⟨rfl, rfl⟩)
    | (go_at_call 33; refine (putCommands_nil b _ e10).mono ?_; rintro e w9 ⟨rfl, rfl⟩)
    | (go_at_call 39; refine (growCommands_nil b _ e10).mono ?_; rintro e w9 ⟨rfl, rfl⟩)
    | (go_at_call 39; refine (growCommands_nil b _ f10).mono ?_; rintro e w9 ⟨rfl, rfl⟩)
    | (go_at_call 47; refine (markedReplies_nil _).mono ?_; rintro e w9 ⟨rfl, rfl⟩)
    | (go_at_call 26; refine (stillReplies_nil b _ c12).mono ?_; rintro e w9 ⟨rfl, rfl⟩)
    | (go_at_call 26; refine (stillReplies_nil b _ d12).mono ?_; rintro e w9 ⟨rfl, rfl⟩)
    | (go_at_call 27; refine (putReplies_nil b _ d12).mono ?_; rintro e w9 ⟨rfl, rfl⟩)
    | (go_at_call 27; refine (putReplies_nil b _ e12).mono ?_; rintro e w9 ⟨rfl, rfl⟩)
    | (go_at_call 40; refine (growReplies_nil b _ e12).mono ?_; rintro e w9 ⟨rfl, rfl⟩)
    | (go_at_call 40; refine (growReplies_nil b _ f12).mono ?_; rintro e w9 ⟨rfl, rfl⟩))
  go_ret
  exact ⟨rfl, K5.out⟩
end Go.Proofs.Ythchacmkeppjcaa

