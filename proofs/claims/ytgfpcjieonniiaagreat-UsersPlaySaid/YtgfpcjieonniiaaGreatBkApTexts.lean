/-
  The Book's Apart, of a Book with texts alone.
-/
import Derived.Test.YtgfpcjieonniiaaGreatBkTextsB
import Derived.Test.YtgfpcjieonniiaaGreatBkTextsE
import Derived.Test.YtgfpcjieonniiaaGreatBookNilTexts
namespace Go.Proofs.YtgfpcjieonniiaaGreat
set_option linter.unusedVariables false
set_option linter.unusedSimpArgs false
set_option linter.unnecessarySimpa false
open Go.RowKit

/-- The cells of a Book's block. -/
def BookCells (W : World) (b : Nat) (VTexts CTexts : Value) : Prop := W.cell? ⟨b, 2, none⟩ = some (.slice none 0 0) ∧ W.cell? ⟨b, 4, none⟩ = some (.slice none 0 0) ∧ W.cell? ⟨b, 6, none⟩ = some (.slice none 0 0) ∧ W.cell? ⟨b, 8, none⟩ = some (.slice none 0 0) ∧ W.cell? ⟨b, 10, none⟩ = some (.slice none 0 0) ∧ W.cell? ⟨b, 12, none⟩ = some (.slice none 0 0) ∧ W.cell? ⟨b, 0, none⟩ = some VTexts ∧ W.cell? ⟨b, 1, none⟩ = some CTexts

theorem grown_apart {w0 wr : World} {T E : TypeId} {size : Nat} {F G : Nat → Prop} {N : Nat} {V : Value} {vs : List Value} {len : Nat → Nat} {mk : Nat → Nat → List Value} {ext : Nat} {out : Value} {os : List Value} (h : Gr w0 wr T E size F N V vs len mk ext N out os) (hd : ∀ x, F x → ¬ G x) (hG : ∀ x, G x → x < w0.heap.size) :
    ((∀ x, out.ownBlock = some x → ¬ G x) ∧ ∀ v ∈ os, ∀ x, v.ownBlock = some x → ¬ G x) ∧ (∀ x, V.ownBlock = some x → ¬ G x) ∧ ∀ v ∈ vs, ∀ x, v.ownBlock = some x → ¬ G x := by
  have hv : ∀ v ∈ vs, ∀ x, v.ownBlock = some x → F x := fun v hv x hx => by
    obtain ⟨i, hi, rfl⟩ := List.mem_iff_getElem.1 hv
    have hl := h.base.length
    obtain ⟨u, hu, _, ho⟩ := h.base.item i (by omega)
    rw [List.getElem?_eq_getElem hi] at hu
    injection hu with hu
    subst hu
    exact (ho x hx).1
  refine ⟨⟨fun x hx hg => ?_, fun v hv' x hx hg => ?_⟩, fun x hx => hd x (h.base.rowF x hx), fun v hv' x hx => hd x (hv v hv' x hx)⟩
  · have := h.onew x hx; have := hG x hg; omega
  · obtain ⟨i, hi, rfl⟩ := List.mem_iff_getElem.1 hv'
    have hl := h.orow.1
    obtain ⟨u, y, hu, hy, _, ho, _⟩ := h.ol i (by omega)
    rw [List.getElem?_eq_getElem hi] at hu
    injection hu with hu
    subst hu
    rcases ho x hx with e | e
    · exact hd x (hv y (List.mem_of_getElem? hy) x e) hg
    · have := hG x hg; omega

theorem listsTexts_of {w : World} {T : TypeId} {F : Nat → Prop} {V : Value} {vs : List Value} {Ls : List (List ByteArray)} {N : Nat} {len : Nat → Nat} {con : Nat → List Value} (h : Kd w T 9 1 F N V vs len con) (hN : N = Ls.length) (hc : ∀ (i : Nat) (hi : i < Ls.length), len i = (Ls[i]).length ∧ con i = ((Ls[i]).map Value.string)) : ListsTexts w V vs Ls := by
  subst hN
  refine ⟨Rd.of_sl h.row, fun i hi => ?_⟩
  obtain ⟨v, hv, hs, _⟩ := h.item i hi
  rw [(hc i hi).1, (hc i hi).2] at hs
  exact ⟨v, hv, Rd.of_sl hs⟩
def marksTextsOf (N ext : Nat) (len : Nat → Nat) : List (List ByteArray) := (List.range N).map fun j => markTextsL j (len j + ext)
theorem marksTextsOf_length (N ext : Nat) (len : Nat → Nat) : (marksTextsOf N ext len).length = N := by simp [marksTextsOf]
theorem marksTextsOf_at (N ext : Nat) (len : Nat → Nat) (i : Nat) (h : i < (marksTextsOf N ext len).length) : (marksTextsOf N ext len)[i] = markTextsL i (len i + ext) := by simp [marksTextsOf]
theorem marksTextsOf_self (N ext : Nat) (len : Nat → Nat) (i : Nat) (h : i < (marksTextsOf N ext len).length) : (marksTextsOf N ext len)[i] = markTextsL i ((marksTextsOf N ext len)[i]).length := by rw [marksTextsOf_at, markTextsL_length]
theorem marksTextsOf_le (N ext : Nat) (len : Nat → Nat) (m : Nat) (hl : ∀ i, i < N → len i ≤ m) : ∀ L ∈ marksTextsOf N ext len, L.length ≤ m + ext := by
  intro L hL
  obtain ⟨j, hj, rfl⟩ := List.mem_map.1 hL
  rw [markTextsL_length]
  have := hl j (List.mem_range.1 hj)
  omega
theorem listsTexts_grown {w0 wr : World} {T : TypeId} {F : Nat → Prop} {N : Nat} {V : Value} {vs : List Value} {len : Nat → Nat} {ext : Nat} {out : Value} {os : List Value} (h : Gr w0 wr T 9 1 F N V vs len mkTexts ext N out os) : ListsTexts wr out os (marksTextsOf N ext len) ∧ ListsTexts wr V vs (marksTextsOf N 0 len) := by
  refine ⟨⟨by rw [marksTextsOf_length]; exact Rd.of_sl h.orow, fun i hi => ?_⟩, ⟨by rw [marksTextsOf_length]; exact Rd.of_sl h.row, fun i hi => ?_⟩⟩
  · rw [marksTextsOf_length] at hi
    obtain ⟨u, _, hu, _, hs, _⟩ := h.ol i hi
    refine ⟨u, hu, ?_⟩
    rw [marksTextsOf_at, markTextsL_length, flat_markTexts]
    exact Rd.of_sl hs
  · rw [marksTextsOf_length] at hi
    obtain ⟨u, hu, hs⟩ := h.list i hi
    refine ⟨u, hu, ?_⟩
    rw [marksTextsOf_at, markTextsL_length, flat_markTexts]
    exact Rd.of_sl hs

set_option maxRecDepth 100000 in
set_option maxHeartbeats 16000000 in
theorem apart_any (b : Nat) (F1Texts F2Texts : Nat → Prop) (NTexts : Nat) (VTexts CTexts : Value) (vsTexts csTexts : List Value) (lenTexts : Nat → Nat) (conTexts : Nat → List Value) (LsTexts : List (List ByteArray)) (w : World) (hTexts : Kb w 47 9 1 F1Texts F2Texts NTexts VTexts CTexts vsTexts csTexts lenTexts conTexts) (hNTexts : NTexts = LsTexts.length) (hcTexts : ∀ (i : Nat) (hi : i < LsTexts.length), lenTexts i = (LsTexts[i]).length ∧ conTexts i = ((LsTexts[i]).map Value.string)) (hFTexts : ¬ F1Texts b) (hnTexts : NTexts ≤ 1000) (hlTexts : ∀ L ∈ LsTexts, L.length ≤ 90000) (hb : BookCells w b VTexts CTexts) :
    Calls Tryz.prog 22 #[.pointer (some ⟨b, 0, none⟩)] w fun e w' => e = .returned (.bool true) ∧ Kept (fun x => F1Texts x) w w' := by
  have hFF : ¬ (fun x => F1Texts x) b := hFTexts
  have hcells : ∀ W, Kept (fun x => F1Texts x) w W → BookCells W b VTexts CTexts := fun W hk => by
    obtain ⟨c2, c4, c6, c8, c10, c12, c0, c1⟩ := hb
    exact ⟨(hk.cell (World.block_lt_of_cell? w _ c2) hFF).trans c2, (hk.cell (World.block_lt_of_cell? w _ c4) hFF).trans c4, (hk.cell (World.block_lt_of_cell? w _ c6) hFF).trans c6, (hk.cell (World.block_lt_of_cell? w _ c8) hFF).trans c8, (hk.cell (World.block_lt_of_cell? w _ c10) hFF).trans c10, (hk.cell (World.block_lt_of_cell? w _ c12) hFF).trans c12, (hk.cell (World.block_lt_of_cell? w _ c0) hFF).trans c0, (hk.cell (World.block_lt_of_cell? w _ c1) hFF).trans c1⟩
  have HCELL := Lib.hid hcells
  have KC := Lib.hid (Kept.refl (fun x => F1Texts x) w)
  have LVTexts := Lib.hid (listsTexts_of hTexts.v hNTexts hcTexts)
  have LCTexts := Lib.hid (listsTexts_of hTexts.c hNTexts hcTexts)
  have KDTexts := Lib.hid hTexts.v
  have HFTexts := Lib.hid hFTexts
  have HLTexts := Lib.hid (show ∀ i, i < NTexts → lenTexts i ≤ 90000 from fun i hi => by rw [(hcTexts i (by omega)).1]; exact hlTexts _ (List.getElem_mem _))
  have HMTexts := Lib.hid (show ∀ L ∈ LsTexts, L.length ≤ 100000 from fun L hL => Nat.le_trans (hlTexts L hL) (by omega))
  have HNTexts := Lib.hid (show LsTexts.length ≤ 1000 by omega)
  obtain ⟨c2, c4, c6, c8, c10, c12, c0, c1⟩ := hb
  clear hcells hFF hTexts hNTexts hcTexts hFTexts hlTexts 
  go_enter Tryz.func22, Tryz.ntmps22
  go_wp2_with (first
    | (go_at_call 33; refine (stillTexts_true b VTexts CTexts vsTexts csTexts LsTexts _ c0 c1 LVTexts.out LCTexts.out HNTexts.out HMTexts.out).mono ?_; rintro e wx ⟨rfl, hk1⟩; have KC := Lib.hid (KC.out.trans hk1 (fun _ _ h => h.elim)); have LVTexts := Lib.hid (LVTexts.out.kept hk1); have LCTexts := Lib.hid (LCTexts.out.kept hk1); have KDTexts := Lib.hid (KDTexts.out.kept hk1 (fun _ _ h => h)); clear c2 c4 c6 c8 c10 c12 c0 c1; obtain ⟨c2, c4, c6, c8, c10, c12, c0, c1⟩ := HCELL.out _ KC.out; clear hk1)
    | (go_at_call 41; refine (putTexts_any b F1Texts NTexts VTexts vsTexts lenTexts conTexts _ c0 HFTexts.out KDTexts.out hnTexts (fun i hi => Nat.le_trans (HLTexts.out i hi) (by omega))).mono ?_; rintro e wx ⟨rfl, hkd, hk1⟩; have KC := Lib.hid (KC.out.trans hk1 (fun _ _ h => h)); have PKTexts := Lib.hid hkd; clear c2 c4 c6 c8 c10 c12 c0 c1; obtain ⟨c2, c4, c6, c8, c10, c12, c0, c1⟩ := HCELL.out _ KC.out; clear hk1 hkd)
    | (go_at_call 47; refine (growTexts_any b F1Texts NTexts VTexts vsTexts lenTexts _ c0 HFTexts.out PKTexts.out hnTexts HLTexts.out).mono ?_; rintro e wx ⟨outTexts, osTexts, rfl, hgr⟩; have KC := Lib.hid (KC.out.trans hgr.kept (fun _ _ h => h)); have GRTexts := Lib.hid (listsTexts_grown hgr); clear c2 c4 c6 c8 c10 c12 c0 c1; obtain ⟨c2, c4, c6, c8, c10, c12, c0, c1⟩ := HCELL.out _ KC.out; clear hgr)
    | (have md := MDTexts; clear md; go_at_call 54; refine (markedTexts_true _ _ _ _ GRTexts.out.2 (by rw [marksTextsOf_length]; exact hnTexts) (marksTextsOf_self _ _ _) (fun L hL => Nat.le_trans (marksTextsOf_le NTexts 0 lenTexts 90000 HLTexts.out L hL) (by omega))).mono ?_; rintro e wx ⟨rfl, hk1⟩; have KC := Lib.hid (KC.out.trans hk1 (fun _ _ h => h.elim)); have GRTexts := Lib.hid (And.intro (GRTexts.out.1.kept hk1) (GRTexts.out.2.kept hk1)); clear c2 c4 c6 c8 c10 c12 c0 c1; obtain ⟨c2, c4, c6, c8, c10, c12, c0, c1⟩ := HCELL.out _ KC.out; clear hk1)
    | (go_at_call 54; refine (markedTexts_true _ _ _ _ GRTexts.out.1 (by rw [marksTextsOf_length]; exact hnTexts) (marksTextsOf_self _ _ _) (fun L hL => Nat.le_trans (marksTextsOf_le NTexts 72 lenTexts 90000 HLTexts.out L hL) (by omega))).mono ?_; rintro e wx ⟨rfl, hk1⟩; have KC := Lib.hid (KC.out.trans hk1 (fun _ _ h => h.elim)); have GRTexts := Lib.hid (And.intro (GRTexts.out.1.kept hk1) (GRTexts.out.2.kept hk1)); clear c2 c4 c6 c8 c10 c12 c0 c1; obtain ⟨c2, c4, c6, c8, c10, c12, c0, c1⟩ := HCELL.out _ KC.out; clear hk1; have MDTexts := Lib.hid trivial)
    | (go_at_call 55; refine (markedInts_nil _).mono ?_; rintro e wx ⟨rfl, rfl⟩)
    | (go_at_call 34; refine (stillInts_nil b _ c2).mono ?_; rintro e wx ⟨rfl, rfl⟩)
    | (go_at_call 42; refine (putInts_nil b _ c2).mono ?_; rintro e wx ⟨rfl, rfl⟩)
    | (go_at_call 48; refine (growInts_nil b _ c2).mono ?_; rintro e wx ⟨rfl, rfl⟩)
    | (go_at_call 56; refine (markedRules_nil _).mono ?_; rintro e wx ⟨rfl, rfl⟩)
    | (go_at_call 35; refine (stillRules_nil b _ c4).mono ?_; rintro e wx ⟨rfl, rfl⟩)
    | (go_at_call 43; refine (putRules_nil b _ c4).mono ?_; rintro e wx ⟨rfl, rfl⟩)
    | (go_at_call 49; refine (growRules_nil b _ c4).mono ?_; rintro e wx ⟨rfl, rfl⟩)
    | (go_at_call 57; refine (markedNotes_nil _).mono ?_; rintro e wx ⟨rfl, rfl⟩)
    | (go_at_call 36; refine (stillNotes_nil b _ c6).mono ?_; rintro e wx ⟨rfl, rfl⟩)
    | (go_at_call 44; refine (putNotes_nil b _ c6).mono ?_; rintro e wx ⟨rfl, rfl⟩)
    | (go_at_call 50; refine (growNotes_nil b _ c6).mono ?_; rintro e wx ⟨rfl, rfl⟩)
    | (go_at_call 58; refine (markedItems_nil _).mono ?_; rintro e wx ⟨rfl, rfl⟩)
    | (go_at_call 37; refine (stillItems_nil b _ c8).mono ?_; rintro e wx ⟨rfl, rfl⟩)
    | (go_at_call 45; refine (putItems_nil b _ c8).mono ?_; rintro e wx ⟨rfl, rfl⟩)
    | (go_at_call 51; refine (growItems_nil b _ c8).mono ?_; rintro e wx ⟨rfl, rfl⟩)
    | (go_at_call 59; refine (markedCommands_nil _).mono ?_; rintro e wx ⟨rfl, rfl⟩)
    | (go_at_call 38; refine (stillCommands_nil b _ c10).mono ?_; rintro e wx ⟨rfl, rfl⟩)
    | (go_at_call 46; refine (putCommands_nil b _ c10).mono ?_; rintro e wx ⟨rfl, rfl⟩)
    | (go_at_call 52; refine (growCommands_nil b _ c10).mono ?_; rintro e wx ⟨rfl, rfl⟩)
    | (go_at_call 60; refine (markedReplies_nil _).mono ?_; rintro e wx ⟨rfl, rfl⟩)
    | (go_at_call 39; refine (stillReplies_nil b _ c12).mono ?_; rintro e wx ⟨rfl, rfl⟩)
    | (go_at_call 40; refine (putReplies_nil b _ c12).mono ?_; rintro e wx ⟨rfl, rfl⟩)
    | (go_at_call 53; refine (growReplies_nil b _ c12).mono ?_; rintro e wx ⟨rfl, rfl⟩))
  go_ret
  exact ⟨rfl, KC.out⟩
end Go.Proofs.YtgfpcjieonniiaaGreat
