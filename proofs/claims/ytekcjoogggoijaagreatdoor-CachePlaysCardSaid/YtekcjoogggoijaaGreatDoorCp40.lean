/-
  The Book's Apart, of a Book with texts and items alone.
-/
import Derived.Test.YtekcjoogggoijaaGreatDoorCp36
import Derived.Test.YtekcjoogggoijaaGreatDoorCp37
import Derived.Test.YtekcjoogggoijaaGreatDoorCp38
import Derived.Test.YtekcjoogggoijaaGreatDoorCp39
set_option linter.unusedVariables false
set_option linter.unusedSimpArgs false
set_option linter.unnecessarySimpa false
namespace Go.Proofs.YtekcjoogggoijaaGreatDoor
open Go.RowKit

/-- The cells of a Book's block. -/
def BookCells (W : World) (b : Nat) (VTexts CTexts VItems CItems : Value) : Prop := W.cell? ⟨b, 2, none⟩ = some (.slice none 0 0) ∧ W.cell? ⟨b, 4, none⟩ = some (.slice none 0 0) ∧ W.cell? ⟨b, 6, none⟩ = some (.slice none 0 0) ∧ W.cell? ⟨b, 10, none⟩ = some (.slice none 0 0) ∧ W.cell? ⟨b, 12, none⟩ = some (.slice none 0 0) ∧ W.cell? ⟨b, 0, none⟩ = some VTexts ∧ W.cell? ⟨b, 1, none⟩ = some CTexts ∧ W.cell? ⟨b, 8, none⟩ = some VItems ∧ W.cell? ⟨b, 9, none⟩ = some CItems

theorem grown_apart {w0 wr : World} {T E : TypeId} {size : Nat} {F G : Nat → Prop} {N : Nat} {V : Value} {vs : List Value} {len : Nat → Nat} {mk : Nat → Nat → List Value} {ext : Nat} {out : Value} {os : List Value} (h : Gr w0 wr T E size F N V vs len mk ext N out os) (hd : ∀ x, F x → ¬ G x) (hG : ∀ x, G x → x < w0.heap.size) :
    ((∀ x, out.ownBlock = some x → ¬ G x) ∧ ∀ v ∈ os, ∀ x, v.ownBlock = some x → ¬ G x) ∧ (∀ x, V.ownBlock = some x → ¬ G x) ∧ ∀ v ∈ vs, ∀ x, v.ownBlock = some x → ¬ G x := by
  have hv : ∀ v ∈ vs, ∀ x, v.ownBlock = some x → F x := fun v hv x hx => by
    obtain ⟨i, hi, rfl⟩ := List.mem_iff_getElem.1 hv
    have hl := h.base.length
    obtain ⟨u, hu, _, ho⟩ := h.base.item i (by omega)
    rw [List.getElem?_eq_getElem hi] at hu
    injection hu with hu
    subst hu
    exact (ho x hx).1
  refine ⟨⟨fun x hx hg => ?_, fun v hv' x hx hg => ?_⟩, fun x hx => hd x (h.base.rowF x hx), fun v hv' x hx => hd x (hv v hv' x hx)⟩
  · have := h.onew x hx; have := hG x hg; omega
  · obtain ⟨i, hi, rfl⟩ := List.mem_iff_getElem.1 hv'
    have hl := h.orow.1
    obtain ⟨u, y, hu, hy, _, ho, _⟩ := h.ol i (by omega)
    rw [List.getElem?_eq_getElem hi] at hu
    injection hu with hu
    subst hu
    rcases ho x hx with e | e
    · exact hd x (hv y (List.mem_of_getElem? hy) x e) hg
    · have := hG x hg; omega

theorem listsTexts_of {w : World} {T : TypeId} {F : Nat → Prop} {V : Value} {vs : List Value} {Ls : List (List ByteArray)} {N : Nat} {len : Nat → Nat} {con : Nat → List Value} (h : Kd w T 9 1 F N V vs len con) (hN : N = Ls.length) (hc : ∀ (i : Nat) (hi : i < Ls.length), len i = (Ls[i]).length ∧ con i = ((Ls[i]).map Value.string)) : ListsTexts w V vs Ls := by
  subst hN
  refine ⟨Rd.of_sl h.row, fun i hi => ?_⟩
  obtain ⟨v, hv, hs, _⟩ := h.item i hi
  rw [(hc i hi).1, (hc i hi).2] at hs
  exact ⟨v, hv, Rd.of_sl hs⟩
def marksTextsOf (N ext : Nat) (len : Nat → Nat) : List (List ByteArray) := (List.range N).map fun j => markTextsL j (len j + ext)
theorem marksTextsOf_length (N ext : Nat) (len : Nat → Nat) : (marksTextsOf N ext len).length = N := by simp [marksTextsOf]
theorem marksTextsOf_at (N ext : Nat) (len : Nat → Nat) (i : Nat) (h : i < (marksTextsOf N ext len).length) : (marksTextsOf N ext len)[i] = markTextsL i (len i + ext) := by simp [marksTextsOf]
theorem marksTextsOf_self (N ext : Nat) (len : Nat → Nat) (i : Nat) (h : i < (marksTextsOf N ext len).length) : (marksTextsOf N ext len)[i] = markTextsL i ((marksTextsOf N ext len)[i]).length := by rw [marksTextsOf_at, markTextsL_length]
theorem marksTextsOf_le (N ext : Nat) (len : Nat → Nat) (m : Nat) (hl : ∀ i, i < N → len i ≤ m) : ∀ L ∈ marksTextsOf N ext len, L.length ≤ m + ext := by
  intro L hL
  obtain ⟨j, hj, rfl⟩ := List.mem_map.1 hL
  rw [markTextsL_length]
  have := hl j (List.mem_range.1 hj)
  omega
theorem listsTexts_grown {w0 wr : World} {T : TypeId} {F : Nat → Prop} {N : Nat} {V : Value} {vs : List Value} {len : Nat → Nat} {ext : Nat} {out : Value} {os : List Value} (h : Gr w0 wr T 9 1 F N V vs len mkTexts ext N out os) : ListsTexts wr out os (marksTextsOf N ext len) ∧ ListsTexts wr V vs (marksTextsOf N 0 len) := by
  refine ⟨⟨by rw [marksTextsOf_length]; exact Rd.of_sl h.orow, fun i hi => ?_⟩, ⟨by rw [marksTextsOf_length]; exact Rd.of_sl h.row, fun i hi => ?_⟩⟩
  · rw [marksTextsOf_length] at hi
    obtain ⟨u, _, hu, _, hs, _⟩ := h.ol i hi
    refine ⟨u, hu, ?_⟩
    rw [marksTextsOf_at, markTextsL_length, flat_markTexts]
    exact Rd.of_sl hs
  · rw [marksTextsOf_length] at hi
    obtain ⟨u, hu, hs⟩ := h.list i hi
    refine ⟨u, hu, ?_⟩
    rw [marksTextsOf_at, markTextsL_length, flat_markTexts]
    exact Rd.of_sl hs

theorem listsItems_of {w : World} {T : TypeId} {F : Nat → Prop} {V : Value} {vs : List Value} {Ls : List (List It)} {N : Nat} {len : Nat → Nat} {con : Nat → List Value} (h : Kd w T 44 4 F N V vs len con) (hN : N = Ls.length) (hc : ∀ (i : Nat) (hi : i < Ls.length), len i = (Ls[i]).length ∧ con i = (flat (Ls[i]))) : ListsItems w V vs Ls := by
  subst hN
  refine ⟨Rd.of_sl h.row, fun i hi => ?_⟩
  obtain ⟨v, hv, hs, _⟩ := h.item i hi
  rw [(hc i hi).1, (hc i hi).2] at hs
  exact ⟨v, hv, Rd.of_sl hs⟩
def marksItemsOf (N ext : Nat) (len : Nat → Nat) : List (List It) := (List.range N).map fun j => markItemsL j (len j + ext)
theorem marksItemsOf_length (N ext : Nat) (len : Nat → Nat) : (marksItemsOf N ext len).length = N := by simp [marksItemsOf]
theorem marksItemsOf_at (N ext : Nat) (len : Nat → Nat) (i : Nat) (h : i < (marksItemsOf N ext len).length) : (marksItemsOf N ext len)[i] = markItemsL i (len i + ext) := by simp [marksItemsOf]
theorem marksItemsOf_self (N ext : Nat) (len : Nat → Nat) (i : Nat) (h : i < (marksItemsOf N ext len).length) : (marksItemsOf N ext len)[i] = markItemsL i ((marksItemsOf N ext len)[i]).length := by rw [marksItemsOf_at, markItemsL_length]
theorem marksItemsOf_le (N ext : Nat) (len : Nat → Nat) (m : Nat) (hl : ∀ i, i < N → len i ≤ m) : ∀ L ∈ marksItemsOf N ext len, L.length ≤ m + ext := by
  intro L hL
  obtain ⟨j, hj, rfl⟩ := List.mem_map.1 hL
  rw [markItemsL_length]
  have := hl j (List.mem_range.1 hj)
  omega
theorem listsItems_grown {w0 wr : World} {T : TypeId} {F : Nat → Prop} {N : Nat} {V : Value} {vs : List Value} {len : Nat → Nat} {ext : Nat} {out : Value} {os : List Value} (h : Gr w0 wr T 44 4 F N V vs len mkItems ext N out os) : ListsItems wr out os (marksItemsOf N ext len) ∧ ListsItems wr V vs (marksItemsOf N 0 len) := by
  refine ⟨⟨by rw [marksItemsOf_length]; exact Rd.of_sl h.orow, fun i hi => ?_⟩, ⟨by rw [marksItemsOf_length]; exact Rd.of_sl h.row, fun i hi => ?_⟩⟩
  · rw [marksItemsOf_length] at hi
    obtain ⟨u, _, hu, _, hs, _⟩ := h.ol i hi
    refine ⟨u, hu, ?_⟩
    rw [marksItemsOf_at, markItemsL_length, flat_markItems]
    exact Rd.of_sl hs
  · rw [marksItemsOf_length] at hi
    obtain ⟨u, hu, hs⟩ := h.list i hi
    refine ⟨u, hu, ?_⟩
    rw [marksItemsOf_at, markItemsL_length, flat_markItems]
    exact Rd.of_sl hs

set_option maxRecDepth 100000 in
set_option maxHeartbeats 16000000 in
theorem apart_any (b : Nat) (F1Texts F2Texts : Nat → Prop) (NTexts : Nat) (VTexts CTexts : Value) (vsTexts csTexts : List Value) (lenTexts : Nat → Nat) (conTexts : Nat → List Value) (LsTexts : List (List ByteArray)) (F1Items F2Items : Nat → Prop) (NItems : Nat) (VItems CItems : Value) (vsItems csItems : List Value) (lenItems : Nat → Nat) (conItems : Nat → List Value) (LsItems : List (List It)) (w : World) (hTexts : Kb w 49 9 1 F1Texts F2Texts NTexts VTexts CTexts vsTexts csTexts lenTexts conTexts) (hNTexts : NTexts = LsTexts.length) (hcTexts : ∀ (i : Nat) (hi : i < LsTexts.length), lenTexts i = (LsTexts[i]).length ∧ conTexts i = ((LsTexts[i]).map Value.string)) (hFTexts : ¬ F1Texts b) (hnTexts : NTexts ≤ 1000) (hlTexts : ∀ L ∈ LsTexts, L.length ≤ 90000) (hItems : Kb w 45 44 4 F1Items F2Items NItems VItems CItems vsItems csItems lenItems conItems) (hNItems : NItems = LsItems.length) (hcItems : ∀ (i : Nat) (hi : i < LsItems.length), lenItems i = (LsItems[i]).length ∧ conItems i = (flat (LsItems[i]))) (hFItems : ¬ F1Items b) (hnItems : NItems ≤ 1000) (hlItems : ∀ L ∈ LsItems, L.length ≤ 90000) (hdTextsItems : ∀ x, F1Texts x → ¬ F1Items x) (hdItemsTexts : ∀ x, F1Items x → ¬ F1Texts x) (hb : BookCells w b VTexts CTexts VItems CItems) :
    Calls Tryz.prog 22 #[.pointer (some ⟨b, 0, none⟩)] w fun e w' => e = .returned (.bool true) ∧ Kept (fun x => F1Texts x ∨ F1Items x) w w' := by
  have hFF : ¬ (fun x => F1Texts x ∨ F1Items x) b := fun h => h.elim hFTexts hFItems
  have hcells : ∀ W, Kept (fun x => F1Texts x ∨ F1Items x) w W → BookCells W b VTexts CTexts VItems CItems := fun W hk => by
    obtain ⟨c2, c4, c6, c10, c12, c0, c1, c8, c9⟩ := hb
    exact ⟨(hk.cell (World.block_lt_of_cell? w _ c2) hFF).trans c2, (hk.cell (World.block_lt_of_cell? w _ c4) hFF).trans c4, (hk.cell (World.block_lt_of_cell? w _ c6) hFF).trans c6, (hk.cell (World.block_lt_of_cell? w _ c10) hFF).trans c10, (hk.cell (World.block_lt_of_cell? w _ c12) hFF).trans c12, (hk.cell (World.block_lt_of_cell? w _ c0) hFF).trans c0, (hk.cell (World.block_lt_of_cell? w _ c1) hFF).trans c1, (hk.cell (World.block_lt_of_cell? w _ c8) hFF).trans c8, (hk.cell (World.block_lt_of_cell? w _ c9) hFF).trans c9⟩
  have HCELL := Lib.hid hcells
  have KC := Lib.hid (Kept.refl (fun x => F1Texts x ∨ F1Items x) w)
  have LVTexts := Lib.hid (listsTexts_of hTexts.v hNTexts hcTexts)
  have LCTexts := Lib.hid (listsTexts_of hTexts.c hNTexts hcTexts)
  have KDTexts := Lib.hid hTexts.v
  have HFTexts := Lib.hid hFTexts
  have HLTexts := Lib.hid (show ∀ i, i < NTexts → lenTexts i ≤ 90000 from fun i hi => by rw [(hcTexts i (by omega)).1]; exact hlTexts _ (List.getElem_mem _))
  have HMTexts := Lib.hid (show ∀ L ∈ LsTexts, L.length ≤ 100000 from fun L hL => Nat.le_trans (hlTexts L hL) (by omega))
  have HNTexts := Lib.hid (show LsTexts.length ≤ 1000 by omega)
  have LVItems := Lib.hid (listsItems_of hItems.v hNItems hcItems)
  have LCItems := Lib.hid (listsItems_of hItems.c hNItems hcItems)
  have KDItems := Lib.hid hItems.v
  have HFItems := Lib.hid hFItems
  have HLItems := Lib.hid (show ∀ i, i < NItems → lenItems i ≤ 90000 from fun i hi => by rw [(hcItems i (by omega)).1]; exact hlItems _ (List.getElem_mem _))
  have HMItems := Lib.hid (show ∀ L ∈ LsItems, L.length ≤ 100000 from fun L hL => Nat.le_trans (hlItems L hL) (by omega))
  have HNItems := Lib.hid (show LsItems.length ≤ 1000 by omega)
  have HDTextsItems := Lib.hid hdTextsItems
  have HDItemsTexts := Lib.hid hdItemsTexts
  obtain ⟨c2, c4, c6, c10, c12, c0, c1, c8, c9⟩ := hb
  clear hcells hFF hTexts hNTexts hcTexts hFTexts hlTexts hItems hNItems hcItems hFItems hlItems hdTextsItems hdItemsTexts
  go_enter Tryz.func22, Tryz.ntmps22
  go_wp2_with (first
    | (go_at_call 46; refine (stillTexts_true b VTexts CTexts vsTexts csTexts LsTexts _ c0 c1 LVTexts.out LCTexts.out HNTexts.out HMTexts.out).mono ?_; rintro e wx ⟨rfl, hk1⟩; have KC := Lib.hid (KC.out.trans hk1 (fun _ _ h => h.elim)); have LVTexts := Lib.hid (LVTexts.out.kept hk1); have LCTexts := Lib.hid (LCTexts.out.kept hk1); have KDTexts := Lib.hid (KDTexts.out.kept hk1 (fun _ _ h => h)); have LVItems := Lib.hid (LVItems.out.kept hk1); have LCItems := Lib.hid (LCItems.out.kept hk1); have KDItems := Lib.hid (KDItems.out.kept hk1 (fun _ _ h => h)); clear c2 c4 c6 c10 c12 c0 c1 c8 c9; obtain ⟨c2, c4, c6, c10, c12, c0, c1, c8, c9⟩ := HCELL.out _ KC.out; clear hk1)
    | (go_at_call 54; refine (putTexts_any b F1Texts NTexts VTexts vsTexts lenTexts conTexts _ c0 HFTexts.out KDTexts.out hnTexts (fun i hi => Nat.le_trans (HLTexts.out i hi) (by omega))).mono ?_; rintro e wx ⟨rfl, hkd, hk1⟩; have KC := Lib.hid (KC.out.trans hk1 (fun _ _ h => (.inl h))); have PKTexts := Lib.hid hkd; have KDItems := Lib.hid (KDItems.out.kept hk1 HDItemsTexts.out); clear c2 c4 c6 c10 c12 c0 c1 c8 c9; obtain ⟨c2, c4, c6, c10, c12, c0, c1, c8, c9⟩ := HCELL.out _ KC.out; clear hk1 hkd)
    | (go_at_call 60; refine (growTexts_any b F1Texts NTexts VTexts vsTexts lenTexts _ c0 HFTexts.out PKTexts.out hnTexts HLTexts.out).mono ?_; rintro e wx ⟨outTexts, osTexts, rfl, hgr⟩; have KC := Lib.hid (KC.out.trans hgr.kept (fun _ _ h => (.inl h))); have GATextsItems := Lib.hid (grown_apart hgr HDTextsItems.out PKItems.out.lt); have GRTexts := Lib.hid (listsTexts_grown hgr); have PKItems := Lib.hid (PKItems.out.kept hgr.kept HDItemsTexts.out); clear c2 c4 c6 c10 c12 c0 c1 c8 c9; obtain ⟨c2, c4, c6, c10, c12, c0, c1, c8, c9⟩ := HCELL.out _ KC.out; clear hgr)
    | (have md := MDTexts; clear md; go_at_call 67; refine (markedTexts_true _ _ _ _ GRTexts.out.2 (by rw [marksTextsOf_length]; exact hnTexts) (marksTextsOf_self _ _ _) (fun L hL => Nat.le_trans (marksTextsOf_le NTexts 0 lenTexts 90000 HLTexts.out L hL) (by omega))).mono ?_; rintro e wx ⟨rfl, hk1⟩; have KC := Lib.hid (KC.out.trans hk1 (fun _ _ h => h.elim)); have GRTexts := Lib.hid (And.intro (GRTexts.out.1.kept hk1) (GRTexts.out.2.kept hk1)); have GRItems := Lib.hid (And.intro (GRItems.out.1.kept hk1) (GRItems.out.2.kept hk1)); clear c2 c4 c6 c10 c12 c0 c1 c8 c9; obtain ⟨c2, c4, c6, c10, c12, c0, c1, c8, c9⟩ := HCELL.out _ KC.out; clear hk1)
    | (go_at_call 67; refine (markedTexts_true _ _ _ _ GRTexts.out.1 (by rw [marksTextsOf_length]; exact hnTexts) (marksTextsOf_self _ _ _) (fun L hL => Nat.le_trans (marksTextsOf_le NTexts 72 lenTexts 90000 HLTexts.out L hL) (by omega))).mono ?_; rintro e wx ⟨rfl, hk1⟩; have KC := Lib.hid (KC.out.trans hk1 (fun _ _ h => h.elim)); have GRTexts := Lib.hid (And.intro (GRTexts.out.1.kept hk1) (GRTexts.out.2.kept hk1)); have GRItems := Lib.hid (And.intro (GRItems.out.1.kept hk1) (GRItems.out.2.kept hk1)); clear c2 c4 c6 c10 c12 c0 c1 c8 c9; obtain ⟨c2, c4, c6, c10, c12, c0, c1, c8, c9⟩ := HCELL.out _ KC.out; clear hk1; have MDTexts := Lib.hid trivial)
    | (go_at_call 50; refine (stillItems_true b VItems CItems vsItems csItems LsItems _ c8 c9 LVItems.out LCItems.out HNItems.out HMItems.out).mono ?_; rintro e wx ⟨rfl, hk1⟩; have KC := Lib.hid (KC.out.trans hk1 (fun _ _ h => h.elim)); have LVTexts := Lib.hid (LVTexts.out.kept hk1); have LCTexts := Lib.hid (LCTexts.out.kept hk1); have KDTexts := Lib.hid (KDTexts.out.kept hk1 (fun _ _ h => h)); have LVItems := Lib.hid (LVItems.out.kept hk1); have LCItems := Lib.hid (LCItems.out.kept hk1); have KDItems := Lib.hid (KDItems.out.kept hk1 (fun _ _ h => h)); clear c2 c4 c6 c10 c12 c0 c1 c8 c9; obtain ⟨c2, c4, c6, c10, c12, c0, c1, c8, c9⟩ := HCELL.out _ KC.out; clear hk1)
    | (go_at_call 58; refine (putItems_any b F1Items NItems VItems vsItems lenItems conItems _ c8 HFItems.out KDItems.out hnItems (fun i hi => Nat.le_trans (HLItems.out i hi) (by omega))).mono ?_; rintro e wx ⟨rfl, hkd, hk1⟩; have KC := Lib.hid (KC.out.trans hk1 (fun _ _ h => (.inr h))); have PKItems := Lib.hid hkd; have PKTexts := Lib.hid (PKTexts.out.kept hk1 HDTextsItems.out); clear c2 c4 c6 c10 c12 c0 c1 c8 c9; obtain ⟨c2, c4, c6, c10, c12, c0, c1, c8, c9⟩ := HCELL.out _ KC.out; clear hk1 hkd)
    | (go_at_call 64; refine (growItems_any b F1Items NItems VItems vsItems lenItems _ c8 HFItems.out PKItems.out hnItems HLItems.out).mono ?_; rintro e wx ⟨outItems, osItems, rfl, hgr⟩; have KC := Lib.hid (KC.out.trans hgr.kept (fun _ _ h => (.inr h))); have GRItems := Lib.hid (listsItems_grown hgr); have GRTexts := Lib.hid (And.intro (GRTexts.out.1.keptS hgr.kept GATextsItems.out.1.1 GATextsItems.out.1.2) (GRTexts.out.2.keptS hgr.kept GATextsItems.out.2.1 GATextsItems.out.2.2)); clear c2 c4 c6 c10 c12 c0 c1 c8 c9; obtain ⟨c2, c4, c6, c10, c12, c0, c1, c8, c9⟩ := HCELL.out _ KC.out; clear hgr)
    | (have md := MDItems; clear md; go_at_call 71; refine (markedItems_true _ _ _ _ GRItems.out.2 (by rw [marksItemsOf_length]; exact hnItems) (marksItemsOf_self _ _ _) (fun L hL => Nat.le_trans (marksItemsOf_le NItems 0 lenItems 90000 HLItems.out L hL) (by omega))).mono ?_; rintro e wx ⟨rfl, hk1⟩; have KC := Lib.hid (KC.out.trans hk1 (fun _ _ h => h.elim)); have GRTexts := Lib.hid (And.intro (GRTexts.out.1.kept hk1) (GRTexts.out.2.kept hk1)); have GRItems := Lib.hid (And.intro (GRItems.out.1.kept hk1) (GRItems.out.2.kept hk1)); clear c2 c4 c6 c10 c12 c0 c1 c8 c9; obtain ⟨c2, c4, c6, c10, c12, c0, c1, c8, c9⟩ := HCELL.out _ KC.out; clear hk1)
    | (go_at_call 71; refine (markedItems_true _ _ _ _ GRItems.out.1 (by rw [marksItemsOf_length]; exact hnItems) (marksItemsOf_self _ _ _) (fun L hL => Nat.le_trans (marksItemsOf_le NItems 72 lenItems 90000 HLItems.out L hL) (by omega))).mono ?_; rintro e wx ⟨rfl, hk1⟩; have KC := Lib.hid (KC.out.trans hk1 (fun _ _ h => h.elim)); have GRTexts := Lib.hid (And.intro (GRTexts.out.1.kept hk1) (GRTexts.out.2.kept hk1)); have GRItems := Lib.hid (And.intro (GRItems.out.1.kept hk1) (GRItems.out.2.kept hk1)); clear c2 c4 c6 c10 c12 c0 c1 c8 c9; obtain ⟨c2, c4, c6, c10, c12, c0, c1, c8, c9⟩ := HCELL.out _ KC.out; clear hk1; have MDItems := Lib.hid trivial)
    | (go_at_call 68; refine (markedInts_nil _).mono ?_; rintro e wx ⟨rfl, rfl⟩)
    | (go_at_call 47; refine (stillInts_nil b _ c2).mono ?_; rintro e wx ⟨rfl, rfl⟩)
    | (go_at_call 55; refine (putInts_nil b _ c2).mono ?_; rintro e wx ⟨rfl, rfl⟩)
    | (go_at_call 61; refine (growInts_nil b _ c2).mono ?_; rintro e wx ⟨rfl, rfl⟩)
    | (go_at_call 69; refine (markedRules_nil _).mono ?_; rintro e wx ⟨rfl, rfl⟩)
    | (go_at_call 48; refine (stillRules_nil b _ c4).mono ?_; rintro e wx ⟨rfl, rfl⟩)
    | (go_at_call 56; refine (putRules_nil b _ c4).mono ?_; rintro e wx ⟨rfl, rfl⟩)
    | (go_at_call 62; refine (growRules_nil b _ c4).mono ?_; rintro e wx ⟨rfl, rfl⟩)
    | (go_at_call 70; refine (markedNotes_nil _).mono ?_; rintro e wx ⟨rfl, rfl⟩)
    | (go_at_call 49; refine (stillNotes_nil b _ c6).mono ?_; rintro e wx ⟨rfl, rfl⟩)
    | (go_at_call 57; refine (putNotes_nil b _ c6).mono ?_; rintro e wx ⟨rfl, rfl⟩)
    | (go_at_call 63; refine (growNotes_nil b _ c6).mono ?_; rintro e wx ⟨rfl, rfl⟩)
    | (go_at_call 72; refine (markedCommands_nil _).mono ?_; rintro e wx ⟨rfl, rfl⟩)
    | (go_at_call 51; refine (stillCommands_nil b _ c10).mono ?_; rintro e wx ⟨rfl, rfl⟩)
    | (go_at_call 59; refine (putCommands_nil b _ c10).mono ?_; rintro e wx ⟨rfl, rfl⟩)
    | (go_at_call 65; refine (growCommands_nil b _ c10).mono ?_; rintro e wx ⟨rfl, rfl⟩)
    | (go_at_call 73; refine (markedReplies_nil _).mono ?_; rintro e wx ⟨rfl, rfl⟩)
    | (go_at_call 52; refine (stillReplies_nil b _ c12).mono ?_; rintro e wx ⟨rfl, rfl⟩)
    | (go_at_call 53; refine (putReplies_nil b _ c12).mono ?_; rintro e wx ⟨rfl, rfl⟩)
    | (go_at_call 66; refine (growReplies_nil b _ c12).mono ?_; rintro e wx ⟨rfl, rfl⟩))
  go_ret
  exact ⟨rfl, KC.out⟩
end Go.Proofs.YtekcjoogggoijaaGreatDoor
