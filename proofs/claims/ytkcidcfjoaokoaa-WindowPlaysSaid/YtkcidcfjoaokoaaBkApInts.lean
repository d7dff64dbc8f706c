/-
  The Book's Apart, of a Book with ints alone.
-/
import Derived.Test.YtkcidcfjoaokoaaBkIntsB
import Derived.Test.YtkcidcfjoaokoaaBkIntsE
import Derived.Test.YtkcidcfjoaokoaaBookNilInts
namespace Go.Proofs.Ytkcidcfjoaokoaa
set_option linter.unusedVariables false
set_option linter.unusedSimpArgs false
set_option linter.unnecessarySimpa false
open Go.RowKit

/-- The cells of a Book's block. -/
def BookCells (W : World) (b : Nat) (VInts CInts : Value) : Prop := W.cell? ⟨b, 0, none⟩ = some (.slice none 0 0) ∧ W.cell? ⟨b, 4, none⟩ = some (.slice none 0 0) ∧ W.cell? ⟨b, 6, none⟩ = some (.slice none 0 0) ∧ W.cell? ⟨b, 8, none⟩ = some (.slice none 0 0) ∧ W.cell? ⟨b, 10, none⟩ = some (.slice none 0 0) ∧ W.cell? ⟨b, 12, none⟩ = some (.slice none 0 0) ∧ W.cell? ⟨b, 2, none⟩ = some VInts ∧ W.cell? ⟨b, 3, none⟩ = some CInts

theorem grown_apart {w0 wr : World} {T E : TypeId} {size : Nat} {F G : Nat → Prop} {N : Nat} {V : Value} {vs : List Value} {len : Nat → Nat} {mk : Nat → Nat → List Value} {ext : Nat} {out : Value} {os : List Value} (h : Gr w0 wr T E size F N V vs len mk ext N out os) (hd : ∀ x, F x → ¬ G x) (hG : ∀ x, G x → x < w0.heap.size) :
    ((∀ x, out.ownBlock = some x → ¬ G x) ∧ ∀ v ∈ os, ∀ x, v.ownBlock = some x → ¬ G x) ∧ (∀ x, V.ownBlock = some x → ¬ G x) ∧ ∀ v ∈ vs, ∀ x, v.ownBlock = some x → ¬ G x := by
  have hv : ∀ v ∈ vs, ∀ x, v.ownBlock = some x → F x := fun v hv x hx => by
    obtain ⟨i, hi, rfl⟩ := List.mem_iff_getElem.1 hv
    have hl := h.base.length
    obtain ⟨u, hu, _, ho⟩ := h.base.item i (by omega)
    rw [List.getElem?_eq_getElem hi] at hu
    injection hu with hu
    subst hu
    exact (ho x hx).1
  refine ⟨⟨fun x hx hg => ?_, fun v hv' x hx hg => ?_⟩, fun x hx => hd x (h.base.rowF x hx), fun v hv' x hx => hd x (hv v hv' x hx)⟩
  · have := h.onew x hx; have := hG x hg; omega
  · obtain ⟨i, hi, rfl⟩ := List.mem_iff_getElem.1 hv'
    have hl := h.orow.1
    obtain ⟨u, y, hu, hy, _, ho, _⟩ := h.ol i (by omega)
    rw [List.getElem?_eq_getElem hi] at hu
    injection hu with hu
    subst hu
    rcases ho x hx with e | e
    · exact hd x (hv y (List.mem_of_getElem? hy) x e) hg
    · have := hG x hg; omega

theorem listsInts_of {w : World} {T : TypeId} {F : Nat → Prop} {V : Value} {vs : List Value} {Ls : List (List Int)} {N : Nat} {len : Nat → Nat} {con : Nat → List Value} (h : Kd w T 3 1 F N V vs len con) (hN : N = Ls.length) (hc : ∀ (i : Nat) (hi : i < Ls.length), len i = (Ls[i]).length ∧ con i = ((Ls[i]).map (Value.int .i64))) : ListsInts w V vs Ls := by
  subst hN
  refine ⟨Rd.of_sl h.row, fun i hi => ?_⟩
  obtain ⟨v, hv, hs, _⟩ := h.item i hi
  rw [(hc i hi).1, (hc i hi).2] at hs
  exact ⟨v, hv, Rd.of_sl hs⟩
def marksIntsOf (N ext : Nat) (len : Nat → Nat) : List (List Int) := (List.range N).map fun j => markIntsL j (len j + ext)
theorem marksIntsOf_length (N ext : Nat) (len : Nat → Nat) : (marksIntsOf N ext len).length = N := by simp [marksIntsOf]
theorem marksIntsOf_at (N ext : Nat) (len : Nat → Nat) (i : Nat) (h : i < (marksIntsOf N ext len).length) : (marksIntsOf N ext len)[i] = markIntsL i (len i + ext) := by simp [marksIntsOf]
theorem marksIntsOf_self (N ext : Nat) (len : Nat → Nat) (i : Nat) (h : i < (marksIntsOf N ext len).length) : (marksIntsOf N ext len)[i] = markIntsL i ((marksIntsOf N ext len)[i]).length := by rw [marksIntsOf_at, markIntsL_length]
theorem marksIntsOf_le (N ext : Nat) (len : Nat → Nat) (m : Nat) (hl : ∀ i, i < N → len i ≤ m) : ∀ L ∈ marksIntsOf N ext len, L.length ≤ m + ext := by
  intro L hL
  obtain ⟨j, hj, rfl⟩ := List.mem_map.1 hL
  rw [markIntsL_length]
  have := hl j (List.mem_range.1 hj)
  omega
theorem listsInts_grown {w0 wr : World} {T : TypeId} {F : Nat → Prop} {N : Nat} {V : Value} {vs : List Value} {len : Nat → Nat} {ext : Nat} {out : Value} {os : List Value} (h : Gr w0 wr T 3 1 F N V vs len mkInts ext N out os) : ListsInts wr out os (marksIntsOf N ext len) ∧ ListsInts wr V vs (marksIntsOf N 0 len) := by
  refine ⟨⟨by rw [marksIntsOf_length]; exact Rd.of_sl h.orow, fun i hi => ?_⟩, ⟨by rw [marksIntsOf_length]; exact Rd.of_sl h.row, fun i hi => ?_⟩⟩
  · rw [marksIntsOf_length] at hi
    obtain ⟨u, _, hu, _, hs, _⟩ := h.ol i hi
    refine ⟨u, hu, ?_⟩
    rw [marksIntsOf_at, markIntsL_length, flat_markInts]
    exact Rd.of_sl hs
  · rw [marksIntsOf_length] at hi
    obtain ⟨u, hu, hs⟩ := h.list i hi
    refine ⟨u, hu, ?_⟩
    rw [marksIntsOf_at, markIntsL_length, flat_markInts]
    exact Rd.of_sl hs

set_option maxRecDepth 100000 in
set_option maxHeartbeats 16000000 in
theorem apart_any (b : Nat) (F1Ints F2Ints : Nat → Prop) (NInts : Nat) (VInts CInts : Value) (vsInts csInts : List Value) (lenInts : Nat → Nat) (conInts : Nat → List Value) (LsInts : List (List Int)) (w : World) (hInts : Kb w 22 3 1 F1Ints F2Ints NInts VInts CInts vsInts csInts lenInts conInts) (hNInts : NInts = LsInts.length) (hcInts : ∀ (i : Nat) (hi : i < LsInts.length), lenInts i = (LsInts[i]).length ∧ conInts i = ((LsInts[i]).map (Value.int .i64))) (hFInts : ¬ F1Ints b) (hnInts : NInts ≤ 1000) (hlInts : ∀ L ∈ LsInts, L.length ≤ 90000) (hb : BookCells w b VInts CInts) :
    Calls Try.prog 15 #[.pointer (some ⟨b, 0, none⟩)] w fun e w' => e = .returned (.bool true) ∧ Kept (fun x => F1Ints x) w w' := by
  have hFF : ¬ (fun x => F1Ints x) b := hFInts
  have hcells : ∀ W, Kept (fun x => F1Ints x) w W → BookCells W b VInts CInts := fun W hk => by
    obtain ⟨c0, c4, c6, c8, c10, c12, c2, c3⟩ := hb
    exact ⟨(hk.cell (World.block_lt_of_cell? w _ c0) hFF).trans c0, (hk.cell (World.block_lt_of_cell? w _ c4) hFF).trans c4, (hk.cell (World.block_lt_of_cell? w _ c6) hFF).trans c6, (hk.cell (World.block_lt_of_cell? w _ c8) hFF).trans c8, (hk.cell (World.block_lt_of_cell? w _ c10) hFF).trans c10, (hk.cell (World.block_lt_of_cell? w _ c12) hFF).trans c12, (hk.cell (World.block_lt_of_cell? w _ c2) hFF).trans c2, (hk.cell (World.block_lt_of_cell? w _ c3) hFF).trans c3⟩
  have HCELL := Lib.hid hcells
  have KC := Lib.hid (Kept.refl (fun x => F1Ints x) w)
  have LVInts := Lib.hid (listsInts_of hInts.v hNInts hcInts)
  have LCInts := Lib.hid (listsInts_of hInts.c hNInts hcInts)
  have KDInts := Lib.hid hInts.v
  have HFInts := Lib.hid hFInts
  have HLInts := Lib.hid (show ∀ i, i < NInts → lenInts i ≤ 90000 from fun i hi => by rw [(hcInts i (by omega)).1]; exact hlInts _ (List.getElem_mem _))
  have HMInts := Lib.hid (show ∀ L ∈ LsInts, L.length ≤ 100000 from fun L hL => Nat.le_trans (hlInts L hL) (by omega))
  have HNInts := Lib.hid (show LsInts.length ≤ 1000 by omega)
  obtain ⟨c0, c4, c6, c8, c10, c12, c2, c3⟩ := hb
  clear hcells hFF hInts hNInts hcInts hFInts hlInts 
  go_enter Try.func15, Try.ntmps15
  go_wp2_with (first
    | (go_at_call 22; refine (stillInts_true b VInts CInts vsInts csInts LsInts _ c2 c3 LVInts.out LCInts.out HNInts.out HMInts.out).mono ?_; rintro e wx ⟨rfl, hk1⟩; have KC := Lib.hid (KC.out.trans hk1 (fun _ _ h => h.elim)); have LVInts := Lib.hid (LVInts.out.kept hk1); have LCInts := Lib.hid (LCInts.out.kept hk1); have KDInts := Lib.hid (KDInts.out.kept hk1 (fun _ _ h => h)); clear c0 c4 c6 c8 c10 c12 c2 c3; obtain ⟨c0, c4, c6, c8, c10, c12, c2, c3⟩ := HCELL.out _ KC.out; clear hk1)
    | (go_at_call 30; refine (putInts_any b F1Ints NInts VInts vsInts lenInts conInts _ c2 HFInts.out KDInts.out hnInts (fun i hi => Nat.le_trans (HLInts.out i hi) (by omega))).mono ?_; rintro e wx ⟨rfl, hkd, hk1⟩; have KC := Lib.hid (KC.out.trans hk1 (fun _ _ h => h)); have PKInts := Lib.hid hkd; clear c0 c4 c6 c8 c10 c12 c2 c3; obtain ⟨c0, c4, c6, c8, c10, c12, c2, c3⟩ := HCELL.out _ KC.out; clear hk1 hkd)
    | (go_at_call 36; refine (growInts_any b F1Ints NInts VInts vsInts lenInts _ c2 HFInts.out PKInts.out hnInts HLInts.out).mono ?_; rintro e wx ⟨outInts, osInts, rfl, hgr⟩; have KC := Lib.hid (KC.out.trans hgr.kept (fun _ _ h => h)); have GRInts := Lib.hid (listsInts_grown hgr); clear c0 c4 c6 c8 c10 c12 c2 c3; obtain ⟨c0, c4, c6, c8, c10, c12, c2, c3⟩ := HCELL.out _ KC.out; clear hgr)
    | (have md := MDInts; clear md; go_at_call 43; refine (markedInts_true _ _ _ _ GRInts.out.2 (by rw [marksIntsOf_length]; exact hnInts) (marksIntsOf_self _ _ _) (fun L hL => Nat.le_trans (marksIntsOf_le NInts 0 lenInts 90000 HLInts.out L hL) (by omega))).mono ?_; rintro e wx ⟨rfl, hk1⟩; have KC := Lib.hid (KC.out.trans hk1 (fun _ _ h => h.elim)); have GRInts := Lib.hid (And.intro (GRInts.out.1.kept hk1) (GRInts.out.2.kept hk1)); clear c0 c4 c6 c8 c10 c12 c2 c3; obtain ⟨c0, c4, c6, c8, c10, c12, c2, c3⟩ := HCELL.out _ KC.out; clear hk1)
    | (go_at_call 43; refine (markedInts_true _ _ _ _ GRInts.out.1 (by rw [marksIntsOf_length]; exact hnInts) (marksIntsOf_self _ _ _) (fun L hL => Nat.le_trans (marksIntsOf_le NInts 72 lenInts 90000 HLInts.out L hL) (by omega))).mono ?_; rintro e wx ⟨rfl, hk1⟩; have KC := Lib.hid (KC.out.trans hk1 (fun _ _ h => h.elim)); have GRInts := Lib.hid (And.intro (GRInts.out.1.kept hk1) (GRInts.out.2.kept hk1)); clear c0 c4 c6 c8 c10 c12 c2 c3; obtain ⟨c0, c4, c6, c8, c10, c12, c2, c3⟩ := HCELL.out _ KC.out; clear hk1; have MDInts := Lib.hid trivial)
    | (go_at_call 42; refine (markedTexts_nil _).mono ?_; rintro e wx ⟨rfl, rfl⟩)
    | (go_at_call 21; refine (stillTexts_nil b _ c0).mono ?_; rintro e wx ⟨rfl, rfl⟩)
    | (go_at_call 29; refine (putTexts_nil b _ c0).mono ?_; rintro e wx ⟨rfl, rfl⟩)
    | (go_at_call 35; refine (growTexts_nil b _ c0).mono ?_; rintro e wx ⟨rfl, rfl⟩)
    | (go_at_call 44; refine (markedRules_nil _).mono ?_; rintro e wx ⟨rfl, rfl⟩)
    | (go_at_call 23; refine (stillRules_nil b _ c4).mono ?_; rintro e wx ⟨rfl, rfl⟩)
    | (go_at_call 31; refine (putRules_nil b _ c4).mono ?_; rintro e wx ⟨rfl, rfl⟩)
    | (go_at_call 37; refine (growRules_nil b _ c4).mono ?_; rintro e wx ⟨rfl, rfl⟩)
    | (go_at_call 45; refine (markedNotes_nil _).mono ?_; rintro e wx ⟨rfl, rfl⟩)
    | (go_at_call 24; refine (stillNotes_nil b _ c6).mono ?_; rintro e wx ⟨rfl, rfl⟩)
    | (go_at_call 32; refine (putNotes_nil b _ c6).mono ?_; rintro e wx ⟨rfl, rfl⟩)
    | (go_at_call 38; refine (growNotes_nil b _ c6).mono ?_; rintro e wx ⟨rfl, rfl⟩)
    | (go_at_call 46; refine (markedItems_nil _).mono ?_; rintro e wx ⟨rfl, rfl⟩)
    | (go_at_call 25; refine (stillItems_nil b _ c8).mono ?_; rintro e wx ⟨rfl, rfl⟩)
    | (go_at_call 33; refine (putItems_nil b _ c8).mono ?_; rintro e wx ⟨rfl, rfl⟩)
    | (go_at_call 39; refine (growItems_nil b _ c8).mono ?_; rintro e wx ⟨rfl, rfl⟩)
    | (go_at_call 47; refine (markedCommands_nil _).mono ?_; rintro e wx ⟨rfl, rfl⟩)
    | (go_at_call 26; refine (stillCommands_nil b _ c10).mono ?_; rintro e wx ⟨rfl, rfl⟩)
    | (go_at_call 34; refine (putCommands_nil b _ c10).mono ?_; rintro e wx ⟨rfl, rfl⟩)
    | (go_at_call 40; refine (growCommands_nil b _ c10).mono ?_; rintro e wx ⟨rfl, rfl⟩)
    | (go_at_call 48; refine (markedReplies_nil _).mono ?_; rintro e wx ⟨rfl, rfl⟩)
    | (go_at_call 27; refine (stillReplies_nil b _ c12).mono ?_; rintro e wx ⟨rfl, rfl⟩)
    | (go_at_call 28; refine (putReplies_nil b _ c12).mono ?_; rintro e wx ⟨rfl, rfl⟩)
    | (go_at_call 41; refine (growReplies_nil b _ c12).mono ?_; rintro e wx ⟨rfl, rfl⟩))
  go_ret
  exact ⟨rfl, KC.out⟩
end Go.Proofs.Ytkcidcfjoaokoaa
