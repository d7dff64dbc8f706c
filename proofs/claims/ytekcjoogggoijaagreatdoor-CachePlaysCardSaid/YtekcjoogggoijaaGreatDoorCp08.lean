/-
  A table of one's own: Del and Keys in words of the items alone.
-/
import Derived.Test.YtekcjoogggoijaaGreatDoorProg
import Derived.Test.YtekcjoogggoijaaGreatDoorCp01
import Derived.Test.YtekcjoogggoijaaGreatDoorShelf
import Derived.Lib.SortBridge
import Derived.Test.YtekcjoogggoijaaGreatDoorCp07
import Derived.Test.YtekcjoogggoijaaGreatDoorCp06
set_option linter.unusedVariables false
set_option linter.unusedSimpArgs false
set_option linter.unnecessarySimpa false
namespace Go.Proofs.YtekcjoogggoijaaGreatDoor
open Go.RowKit

/-- Strings, sorted by their bytes. -/
def bytesLe (x y : ByteArray) : Prop := x.data.toList ≤ y.data.toList
def sortB (ks : List ByteArray) : List ByteArray := ((ks.map fun k => k.data.toList).mergeSort fun x y => decide (x ≤ y)).map fun l => ⟨l.toArray⟩
theorem sortB_length (ks : List ByteArray) : (sortB ks).length = ks.length := by simp [sortB, List.length_mergeSort]
theorem back_forth (ks : List ByteArray) : (ks.map fun k => k.data.toList).map (fun l => (⟨l.toArray⟩ : ByteArray)) = ks := by
  rw [List.map_map]
  have : ((fun l => (⟨l.toArray⟩ : ByteArray)) ∘ fun k : ByteArray => k.data.toList) = id := by
    funext k
    simp
  rw [this, List.map_id]
theorem sortB_perm (ks : List ByteArray) : (sortB ks).Perm ks := by
  unfold sortB
  have h := (List.mergeSort_perm (ks.map fun k => k.data.toList) (fun x y => decide (x ≤ y))).map (fun l => (⟨l.toArray⟩ : ByteArray))
  rw [back_forth] at h
  exact h
theorem sortB_sorted (ks : List ByteArray) : (sortB ks).Pairwise bytesLe := by
  unfold sortB
  rw [List.pairwise_map]
  have h := List.pairwise_mergeSort (le := fun x y : List UInt8 => decide (x ≤ y)) (fun a b c h1 h2 => by simp at h1 h2 ⊢; exact List.le_trans h1 h2) (fun a b => by simp; exact List.le_total a b) (ks.map fun k => k.data.toList)
  exact h.imp (fun h => by simpa [bytesLe] using h)
theorem bytesLe_antisymm {x y : ByteArray} (h : bytesLe x y) (k : bytesLe y x) : x = y := by
  have := List.le_antisymm h k
  exact ByteArray.ext (Array.ext' this)
/-- Two sorted lists of the same strings are the same. -/
theorem sorted_unique {l m : List ByteArray} (hp : l.Perm m) (hl : l.Pairwise bytesLe) (hm : m.Pairwise bytesLe) : l = m :=
  hp.eq_of_pairwise (fun _ _ _ _ h1 h2 => bytesLe_antisymm h1 h2) hl hm
theorem sortB_congr {l m : List ByteArray} (hp : l.Perm m) : sortB l = sortB m :=
  sorted_unique ((sortB_perm l).trans (hp.trans (sortB_perm m).symm)) (sortB_sorted l) (sortB_sorted m)
theorem sortB_of_sorted {l m : List ByteArray} (hp : m.Perm l) (hm : m.Pairwise bytesLe) : sortB l = m :=
  sorted_unique ((sortB_perm l).trans hp.symm) (sortB_sorted l) hm

/-- The strings of a slice. -/
def strs (ks : List ByteArray) : List Value := ks.map Value.string
theorem strs_length (ks : List ByteArray) : (strs ks).length = ks.length := by simp [strs]

theorem grow_kept (w : World) (os : Array Obj) : Kept (fun _ => False) w (Go.Sort.grow w os) :=
  ⟨rfl, rfl, rfl, by simp [Go.Sort.grow], fun k hk _ => Go.Sort.heap_grow_old w os hk⟩

/-- Cells set in a slice's own row: all of them. -/
theorem Sl.fill {w : World} {E : TypeId} {n g off cap : Nat} {xs ys : List Value} (h : Sl w E 1 n (.slice (some ⟨g, off, none⟩) n cap) xs) (hy : ys.length = n) : Sl (w.setCells g off ys) E 1 n (.slice (some ⟨g, off, none⟩) n cap) ys := by
  rcases h.2 with ⟨hv, _⟩ | ⟨g', off', cap', cur, hv, hg, hn, hm, hs, ht⟩
  · cases hv
  · obtain ⟨rfl, rfl, rfl⟩ : g' = g ∧ off' = off ∧ cap' = cap := by
      injection hv with h1 h2 h3
      injection h1 with h1
      injection h1 with h4 h5
      exact ⟨h4.symm, h5.symm, h3.symm⟩
    obtain ⟨c', e1, e2, e3⟩ := setCells_block ys off' w cur hg (by omega)
    refine ⟨by omega, .inr ⟨g', off', cap', c', rfl, e1, hn, hm, by omega, ?_⟩⟩
    have hl : (cur.toList.take off').length = off' := by rw [List.length_take, Array.length_toList]; omega
    rw [e3, List.append_assoc, List.drop_left' hl, List.take_left' (by omega)]
theorem setCells_kept (w : World) (g off : Nat) (ys : List Value) : Kept (fun k => k = g) w (w.setCells g off ys) := by
  obtain ⟨f1, f2, f3, f4⟩ := setCells_facts g ys off w
  exact ⟨f2, f3, f4, by omega, fun k _ hne => setCells_other _ _ _ _ _ hne⟩

theorem sort_nil (w : World) : Calls Tryz.prog 86 #[.slice none 0 0] w fun e w' => e = .returned (.tuple #[]) ∧ w = w' :=
  (Tryz.slices_Sort_string_none none 0 w).mono fun e w' h => ⟨h.1, h.2.symm⟩

theorem sort_strs (v : Value) (ks : List ByteArray) (w : World) (h : Sl w 9 1 ks.length v (strs ks)) (hn : ks.length ≤ 1000000) :
    Calls Tryz.prog 86 #[v] w fun e w' => e = .returned (.tuple #[]) ∧ Sl w' 9 1 ks.length v (strs (sortB ks)) ∧ Kept (fun k => v.ownBlock = some k) w w' := by
  rcases h.form with ⟨rfl, h0, h00⟩ | ⟨g, off, cap, rfl, hc, hlt⟩
  · refine ((show Calls Tryz.prog 86 #[.slice none 0 0] w _ from Tryz.slices_Sort_string_none none 0 w)).mono ?_
    rintro e w' ⟨rfl, rfl⟩
    obtain rfl : ks = [] := List.eq_nil_of_length_eq_zero h0
    exact ⟨rfl, by rw [show sortB [] = [] from List.eq_nil_of_length_eq_zero (by rw [sortB_length]; rfl)]; exact h, Kept.refl _ _⟩
  · have hs := h.cell rfl
    have hH : Go.Sort.Holds Go.Proofs.encStr w g off (ks.map fun k => k.data.toList).toArray := by
      intro j hj
      have hj' : j < ks.length := by simpa using hj
      have h1 := hs j (.string ks[j]) (by simp [strs, List.getElem?_eq_getElem hj'])
      rw [Addr.add_lit] at h1
      refine ⟨?_, ?_⟩
      · rw [h1]
        simp [hj', Go.Proofs.encStr]
      · rcases h.2 with ⟨hv, _⟩ | ⟨g', off', cap', cur, hv, hg, _⟩
        · cases hv
        · injection hv with h2
          injection h2 with h2
          injection h2 with h3 h4
          subst h3 h4
          exact frozen_at hg _
    have hc := Tryz.slices_Sort_string g off cap (ks.map fun k => k.data.toList) w hH hlt (by simp; omega)
    rw [List.length_map] at hc
    refine hc.mono ?_
    rintro e w' ⟨rfl, q, os, rfl⟩
    rw [Go.Lib.sorted_world _ w g off q _ _ os hH (by simp [List.length_mergeSort])]
    have hm : ((ks.map fun k => k.data.toList).mergeSort fun x y => decide (x ≤ y)).map Go.Proofs.encStr = strs (sortB ks) := by
      simp [strs, sortB, Go.Proofs.encStr]
    rw [hm]
    refine ⟨rfl, ?_, ?_⟩
    · exact ((h.drew.fill (w := w.drewN q) (ys := strs (sortB ks)) (by rw [strs_length, sortB_length]))).kept (grow_kept _ _) (fun _ _ h => h)
    · exact ((((Kept.refl _ w).drewN q).trans (setCells_kept _ g off _) (fun i _ e => by rw [e]; rfl)).trans (grow_kept _ _) (fun _ _ h => h.elim))
end Go.Proofs.YtekcjoogggoijaaGreatDoor
namespace Go.Proofs.YtekcjoogggoijaaGreatDoor
open Go.RowKit
set_option maxRecDepth 100000

theorem str_info : (Tryz.prog.info? 9).map (fun i => (i.zero, i.size, i.bytes)) = some (some (.string ByteArray.empty), 1, 16) := by kernel_rfl

/-- v: a slice of one's own with these strings; nothing that was there has turned. -/
def Strs (w w' : World) (v : Value) (ks : List ByteArray) : Prop := Sl w' 9 1 ks.length v (strs ks) ∧ Kept (fun _ => False) w w' ∧ ∀ k, v.ownBlock = some k → w.heap.size ≤ k
theorem Strs.nil {w w' : World} (h : Kept (fun _ => False) w w') : Strs w w' (.slice none 0 0) [] := ⟨Sl.nil _ _ _, h, fun k hk => by cases hk⟩
theorem Strs.kept {w w1 w2 : World} {v : Value} {ks : List ByteArray} (h : Strs w w1 v ks) (hk : Kept (fun _ => False) w1 w2) : Strs w w2 v ks := ⟨h.1.kept hk (fun _ _ h => h), h.2.1.trans hk (fun _ _ h => h), h.2.2⟩
theorem Strs.push {w w1 w2 : World} {v : Value} {ks : List ByteArray} (h : Strs w w1 v ks) {g off cap : Nat} {k : ByteArray}
    (h1 : Sl w2 9 1 (ks.length + 1) (.slice (some ⟨g, off, none⟩) (ks.length + 1) cap) (strs ks ++ [.string k])) (h2 : Kept (fun i => v.ownBlock = some i) w1 w2) (h3 : v.ownBlock = some g ∨ w1.heap.size ≤ g) :
    Strs w w2 (.slice (some ⟨g, off, none⟩) (ks.length + 1) cap) (ks ++ [k]) := by
  refine ⟨?_, h.2.1.trans h2 (fun i hi e => by have := h.2.2 i e; omega), fun i hi => ?_⟩
  · rw [List.length_append]
    simpa [strs] using h1
  · simp [Value.ownBlock] at hi
    subst hi
    exact h3.elim (h.2.2 g) (fun e => Nat.le_trans h.2.1.size e)
theorem Strs.sorted {w w1 w2 : World} {v : Value} {ks : List ByteArray} (h : Strs w w1 v ks) (h1 : Sl w2 9 1 ks.length v (strs (sortB ks))) (h2 : Kept (fun k => v.ownBlock = some k) w1 w2) : Strs w w2 v (sortB ks) :=
  ⟨by rw [sortB_length]; exact h1, h.2.1.trans h2 (fun i hi e => by have := h.2.2 i e; omega), h.2.2⟩

def KeysSaid (w : World) (L : List It) (e : Ending) (w' : World) : Prop := ∃ v, e = .returned v ∧ Strs w w' v (sortB (keys L))

set_option maxHeartbeats 4000000 in
theorem keys_made (b : Nat) (O : Nat → Prop) (seed : Nat) (n : Int) (S : Nat) (sema : Value) (g : Nat) (vs : List Value) (L : List It) (w : World) (h : TabAt w b O seed n S sema g vs L) (hS : S ≤ 1000000) (hL : L.length ≤ 400000) :
    Calls Tryz.prog 40 #[.pointer (some ⟨b, 0, none⟩)] w (KeysSaid w L) := by
  obtain ⟨i0, hi, hz0, hz1, hz2⟩ := info_parts str_info
  have k4 := cell_at h.blk 4
  simp at k4
  have hpos := h.pos
  have hrow : ∀ wr, Kept (fun _ => False) w wr → ∀ i u, vs[i]? = some u → wr.cell? ⟨g, i, none⟩ = some u ∧ Sl wr 44 4 (rowOf seed S L i).length u (flat (rowOf seed S L i)) := by
    intro wr hk i u hu
    have h1 := (h.kept0 hk).rows
    exact ⟨by rw [cell_at h1.blk]; simpa using hu, h1.row i u hu⟩
  have hML : ∀ i, ((allRows seed S L).take i).flatten.length ≤ L.length := fun i => by rw [← (allRows_perm (seed := seed) (S := S) L hpos).length_eq]; exact flatten_take_le _ _
  have fin : ∀ v wr, Strs w wr v (sortB (keys (allRows seed S L).flatten)) → KeysSaid w L (.returned v) wr := by
    intro v wr hj
    refine ⟨v, rfl, ?_⟩
    rw [show sortB (keys L) = sortB (keys (allRows seed S L).flatten) from sortB_congr ((allRows_perm (seed := seed) (S := S) L hpos).map It.key).symm]
    exact hj
  have hlen := h.rows.len
  have ROW := Lib.hid hrow
  have FIN := Lib.hid fin
  have HML := Lib.hid hML
  have HLEN := Lib.hid hlen
  clear hrow fin hML hlen h
  go_enter Tryz.func40, Tryz.ntmps40
  go_wp2_with fail
  go_loopg [3, 15] S (fun gk out k wr => ∃ i : Nat, i + gk = S ∧ k = .int .i64 (i : Int) ∧ Strs w wr out (keys ((allRows seed S L).take i).flatten))
  case atStart => exact ⟨0, by omega, rfl, Strs.nil (Kept.refl _ _)⟩
  case round =>
    obtain ⟨i, hi', rfl, hj⟩ := hrel
    by_cases hlt : i < S
    · obtain ⟨u, hu⟩ : ∃ u, vs[i]? = some u := ⟨_, List.getElem?_eq_getElem (by rw [HLEN.out]; exact hlt)⟩
      obtain ⟨ug, hsl⟩ := ROW.out _ hj.2.1 i u hu
      obtain ⟨ao, ca, rfl, hca⟩ := (Rd.of_sl hsl).shape
      have hcells : ∀ wr', Kept (fun _ => False) w wr' → ∀ j (hj : j < (rowOf seed S L i).length), _ := fun wr' hk j hj => rd_it (Rd.of_sl (ROW.out wr' hk i _ hu).2) rfl j hj
      have hnext := flatten_take_succ (allRows_at (seed := seed) (L := L) hlt)
      have hml := HML.out (i + 1)
      rw [hnext, List.length_append] at hml
      have HC := Lib.hid hcells
      have HNEXT := Lib.hid hnext
      have J1 : Hid (Strs w wr u3 (keys (((allRows seed S L).take i).flatten ++ (rowOf seed S L i).take 0))) := Lib.hid (by rw [List.take_zero, List.append_nil]; exact hj)
      clear hcells hnext hu hsl hj
      generalize ((allRows seed S L).take i).flatten = done at *
      generalize rowOf seed S L i = r at *
      obtain ⟨m, hm⟩ : ∃ m, m = r.length := ⟨_, rfl⟩
      rw [← hm] at hca hml ug
      have HM := Lib.hid hm
      clear hm
      go_wp2_with fail
      go_loopg [3, 21] m (fun gk' out' k wr' => ∃ j : Nat, j + gk' = m ∧ k = .int .i64 (j : Int) ∧ Strs w wr' out' (keys (done ++ r.take j)))
      case atStart => exact ⟨0, by omega, rfl, J1.out⟩
      case round =>
        obtain ⟨j, hj', rfl, hj⟩ := hrel
        by_cases hjm : j < m
        · obtain ⟨gx, offx, rfl, x0, x1, x2, x3⟩ := HC.out _ hj.2.1 j (HM.out ▸ hjm)
          have hjr : j < r.length := HM.out ▸ hjm
          have htk : keys (done ++ r.take (j + 1)) = keys (done ++ r.take j) ++ [(r[j]'hjr).key] := by
            rw [List.take_succ_eq_append_getElem hjr, ← List.append_assoc]
            unfold keys
            rw [List.map_append (l₂ := [_])]
            rfl
          have htl : (keys (done ++ r.take j)).length ≤ L.length := by unfold keys; rw [List.length_map, List.length_append, List.length_take]; omega
          have HTK := Lib.hid htk
          clear htk
          generalize (r[j]'hjr) = x at *
          have hfit : ∀ o, Kept (fun _ => False) wr (wr.alloc o) := fun o => (Kept.refl _ wr).alloc o
          have done1 : ∀ (W' w2 : World) (g4 off cap : Nat), Kept (fun _ => False) wr W' → Sl w2 9 1 ((keys (done ++ r.take j)).length + 1) (.slice (some ⟨g4, off, none⟩) ((keys (done ++ r.take j)).length + 1) cap) (strs (keys (done ++ r.take j)) ++ [.string x.key]) →
              Kept (fun k => u3.ownBlock = some k) W' w2 → (u3.ownBlock = some g4 ∨ W'.heap.size ≤ g4) → Strs w w2 (.slice (some ⟨g4, off, none⟩) ((keys (done ++ r.take j)).length + 1) cap) (keys (done ++ r.take (j + 1))) := by
            intro W' w2 g4 off cap hkW h1 h2 h3
            rw [HTK.out]
            exact (hj.kept hkW).push h1 h2 h3
          have hsl := hj.1
          have DONE := Lib.hid done1
          clear done1 hj HTK
          generalize keys (done ++ r.take j) = ks at *
          have hone : ∀ u ∈ [Value.string x.key], u.oneCell' = true := by simp [Value.oneCell']
          have b1 : ks.length + 1 ≤ maxLen := by unfold maxLen; omega
          have b2 : (ks.length + 1) * 16 ≤ 140737488355328 := by omega
          have hcn : ∀ (o1 : Obj) (j : Nat) (u : Value), [Value.string x.key][j]? = some u → ((wr.alloc o1).alloc (.cells [Value.string x.key].toArray 9)).cell? ((⟨wr.heap.size + 1, 0, none⟩ : Addr).add j) = some u := by
            intro o1 j u hu
            have h := cells_new (wr.alloc o1) [.string x.key] 9 (0, 0) j u hu
            rw [show (wr.alloc o1).heap.size = wr.heap.size + 1 by simp] at h
            exact h
          have HCN := Lib.hid hcn
          clear hcn
          go_wp2_with (at_builtin; refine wpList_append_sl _ rfl (.tmp 25) (.tmp 28) 49 rfl 9 i0 _ 1 16 Tryz.underlying49 hi hz0 hz1 hz2 rfl (by decide) u3 ks.length (strs ks) rfl ((hsl.alloc _).alloc _) ⟨wr.heap.size + 1, 0, none⟩ 1 1 [.string x.key] rfl rfl (HCN.out _) hone (by omega) b1 b2 ?_; intro g4 off cap w2 h1 h2 h3; have FINQ := Lib.hid (DONE.out _ w2 g4 off cap (((Kept.refl _ wr).alloc _).alloc _) h1 h2 h3); clear h1 h2 h3)
          go_roundg (gk - 1)
          case measure => omega
          case rel => exact ⟨j + 1, by omega, by go_num, FINQ.out⟩
        · obtain rfl : j = m := by omega
          rw [List.take_of_length_le (by rw [HM.out]; exact Nat.le_refl _), ← HNEXT.out] at hj
          have HJ := Lib.hid hj
          clear hj
          go_wp2_with fail
          go_roundg (S - i - 1)
          case measure => omega
          case rel => exact ⟨i + 1, by omega, by go_num, HJ.out⟩
    · obtain rfl : i = S := by omega
      rw [List.take_of_length_le (by rw [allRows_length]; exact Nat.le_refl _)] at hj
      have HS := Lib.hid (fun (e : Ending) (w2 : World) (h1 : Sl w2 9 1 (keys (allRows seed i L).flatten).length u3 (strs (sortB (keys (allRows seed i L).flatten)))) (h2 : Kept (fun k => u3.ownBlock = some k) wr w2) => FIN.out u3 w2 (hj.sorted h1 h2))
      have hl := HML.out i
      rw [List.take_of_length_le (by rw [allRows_length]; exact Nat.le_refl _)] at hl
      have hl' : (keys (allRows seed i L).flatten).length ≤ 1000000 := by unfold keys; rw [List.length_map]; omega
      have hsl := hj.1
      clear hj hl
      generalize keys (allRows seed i L).flatten = ks at *
      go_wp2_with fail
      refine (sort_strs u3 ks _ hsl hl').mono ?_
      rintro e w2 ⟨rfl, h1, h2⟩
      have HF := Lib.hid (HS.out (.returned (.tuple #[])) w2 h1 h2)
      clear h1 h2
      go_wp2_with fail
      go_ret
      exact HF.out

theorem keys_any (b : Nat) (O : Nat → Prop) (seed : Nat) (n : Int) (S : Nat) (L : List It) (w : World) (h : Tab0 w b O seed n S L) (hS : S ≤ 1000000) (hL : L.length ≤ 400000) :
    Calls Tryz.prog 40 #[.pointer (some ⟨b, 0, none⟩)] w (KeysSaid w L) := by
  rcases h with ⟨sema, g, vs, h⟩ | ⟨rfl, rfl, rfl, h4, rfl, sema, h6⟩
  · exact keys_made b O seed n S sema g vs L w h hS hL
  · have k4 := cell_at h6 4
    simp at k4
    have FIN : Hid (KeysSaid w [] (.returned (.slice none 0 0)) w) := Lib.hid ⟨_, rfl, by rw [show sortB (keys []) = [] from List.eq_nil_of_length_eq_zero (by rw [sortB_length]; rfl)]; exact Strs.nil (Kept.refl _ w)⟩
    clear h6
    go_enter Tryz.func40, Tryz.ntmps40
    go_wp2_with fail
    refine wp_loop_rounds 1 ?_
    rw [rounds_succ]
    go_wp2_with fail
    refine (sort_nil w).mono ?_
    rintro e w2 ⟨rfl, rfl⟩
    go_wp2_with fail
    go_ret
    exact FIN.out
end Go.Proofs.YtekcjoogggoijaaGreatDoor
namespace Go.Proofs.YtekcjoogggoijaaGreatDoor
open Go.RowKit
set_option maxRecDepth 100000

theorem tb_del {b : Nat} {O : Nat → Prop} {seed S : Nat} {L : List It} (key : ByteArray) {w : World} (h : Tb w b O seed S L) (hS : S ≤ 400000) (hx : key.size ≤ 1000000000) :
    Calls Tryz.prog 103 #[.pointer (some ⟨b, 0, none⟩), .string key] w fun e w' => e = .returned (.bool (hasB L key)) ∧ ∃ O', Tb w' b O' seed S (delL L key) ∧ Grew O w O' w' := by
  obtain ⟨hf, L', hp, ht⟩ := h
  have hf' := hf.perm hp
  rw [← hp.length_eq] at ht
  refine (del_any b O seed S L' key w ht (by omega) (by have := hf'.le; omega) hf'.nodup hx).mono ?_
  rintro e w' ⟨rfl, O', ht2, hg⟩
  have hpp := delL_perm hp key
  rw [hpp.length_eq] at ht2
  exact ⟨by rw [hasB_perm hp], O', ⟨hf.del key, _, hpp, ht2⟩, hg⟩

theorem tb_keys {b : Nat} {O : Nat → Prop} {seed S : Nat} {L : List It} {w : World} (h : Tb w b O seed S L) (hS : S ≤ 400000) :
    Calls Tryz.prog 40 #[.pointer (some ⟨b, 0, none⟩)] w (KeysSaid w L) := by
  obtain ⟨hf, L', hp, ht⟩ := h
  have hf' := hf.perm hp
  refine (keys_any b O seed _ S L' w ht (by omega) (by have := hf'.le; omega)).mono ?_
  rintro e w' ⟨v, rfl, hs⟩
  refine ⟨v, rfl, ?_⟩
  rw [show sortB (keys L) = sortB (keys L') from (sortB_congr (hp.map It.key)).symm]
  exact hs

theorem own_del {w0 w : World} {b seed S : Nat} {L : List It} (key : ByteArray) {r : Bool} {L' : List It} (h : OwnT w0 w b seed S L) (hS : S ≤ 400000) (hx : key.size ≤ 1000000000) (hr : hasB L key = r) (hL : delL L key = L') :
    Calls Tryz.prog 103 #[.pointer (some ⟨b, 0, none⟩), .string key] w fun e w' => e = .returned (.bool r) ∧ OwnT w0 w' b seed S L' := by
  obtain ⟨h1, O, h2, h3⟩ := h
  subst hr hL
  refine (tb_del key h2 hS hx).mono ?_
  rintro e w' ⟨rfl, O', ht, hg⟩
  exact ⟨rfl, .step h1 h3 ht hg⟩
theorem own_keys {w0 w : World} {b seed S : Nat} {L : List It} (h : OwnT w0 w b seed S L) (hS : S ≤ 400000) :
    Calls Tryz.prog 40 #[.pointer (some ⟨b, 0, none⟩)] w (KeysSaid w L) := by
  obtain ⟨h1, O, h2, h3⟩ := h
  exact tb_keys h2 hS
end Go.Proofs.YtekcjoogggoijaaGreatDoor
