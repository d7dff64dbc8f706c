/-
  slices.Sort of strings, in words of slices: the shelf's contract; plain laws on sorted lists of strings.
-/
import Derived.Test.YthdondhpgmjmpaaGreatProg
import Derived.Test.YthdondhpgmjmpaaGreatLib
import Derived.Test.YthdondhpgmjmpaaGreatShelf
import Derived.Lib.SortBridge
namespace Go.Proofs.YthdondhpgmjmpaaGreat
set_option linter.unusedVariables false
set_option linter.unusedSimpArgs false
set_option linter.unnecessarySimpa false
open Go.RowKit

/-- Strings, sorted by their bytes. -/
def bytesLe (x y : ByteArray) : Prop := x.data.toList ≤ y.data.toList
def sortB (ks : List ByteArray) : List ByteArray := ((ks.map fun k => k.data.toList).mergeSort fun x y => decide (x ≤ y)).map fun l => ⟨l.toArray⟩
theorem sortB_length (ks : List ByteArray) : (sortB ks).length = ks.length := by simp [sortB, List.length_mergeSort]
theorem back_forth (ks : List ByteArray) : (ks.map fun k => k.data.toList).map (fun l => (⟨l.toArray⟩ : ByteArray)) = ks := by
  rw [List.map_map]
  have : ((fun l => (⟨l.toArray⟩ : ByteArray)) ∘ fun k : ByteArray => k.data.toList) = id := by
    funext k
    simp
  rw [this, List.map_id]
theorem sortB_perm (ks : List ByteArray) : (sortB ks).Perm ks := by
  unfold sortB
  have h := (List.mergeSort_perm (ks.map fun k => k.data.toList) (fun x y => decide (x ≤ y))).map (fun l => (⟨l.toArray⟩ : ByteArray))
  rw [back_forth] at h
  exact h
theorem sortB_sorted (ks : List ByteArray) : (sortB ks).Pairwise bytesLe := by
  unfold sortB
  rw [List.pairwise_map]
  have h := List.pairwise_mergeSort (le := fun x y : List UInt8 => decide (x ≤ y)) (fun a b c h1 h2 => by simp at h1 h2 ⊢; exact List.le_trans h1 h2) (fun a b => by simp; exact List.le_total a b) (ks.map fun k => k.data.toList)
  exact h.imp (fun h => by simpa [bytesLe] using h)
theorem bytesLe_antisymm {x y : ByteArray} (h : bytesLe x y) (k : bytesLe y x) : x = y := by
  have := List.le_antisymm h k
  exact ByteArray.ext (Array.ext' this)
/-- Two sorted lists of the same strings are the same. -/
theorem sorted_unique {l m : List ByteArray} (hp : l.Perm m) (hl : l.Pairwise bytesLe) (hm : m.Pairwise bytesLe) : l = m :=
  hp.eq_of_pairwise (fun _ _ _ _ h1 h2 => bytesLe_antisymm h1 h2) hl hm
theorem sortB_congr {l m : List ByteArray} (hp : l.Perm m) : sortB l = sortB m :=
  sorted_unique ((sortB_perm l).trans (hp.trans (sortB_perm m).symm)) (sortB_sorted l) (sortB_sorted m)
theorem sortB_of_sorted {l m : List ByteArray} (hp : m.Perm l) (hm : m.Pairwise bytesLe) : sortB l = m :=
  sorted_unique ((sortB_perm l).trans hp.symm) (sortB_sorted l) hm

/-- The strings of a slice. -/
def strs (ks : List ByteArray) : List Value := ks.map Value.string
theorem strs_length (ks : List ByteArray) : (strs ks).length = ks.length := by simp [strs]

theorem grow_kept (w : World) (os : Array Obj) : Kept (fun _ => False) w (Go.Sort.grow w os) :=
  ⟨rfl, rfl, rfl, by simp [Go.Sort.grow], fun k hk _ => Go.Sort.heap_grow_old w os hk⟩

/-- Cells set in a slice's own row: all of them. -/
theorem Sl.fill {w : World} {E : TypeId} {n g off cap : Nat} {xs ys : List Value} (h : Sl w E 1 n (.slice (some ⟨g, off, none⟩) n cap) xs) (hy : ys.length = n) : Sl (w.setCells g off ys) E 1 n (.slice (some ⟨g, off, none⟩) n cap) ys := by
  rcases h.2 with ⟨hv, _⟩ | ⟨g', off', cap', cur, hv, hg, hn, hm, hs, ht⟩
  · cases hv
  · obtain ⟨rfl, rfl, rfl⟩ : g' = g ∧ off' = off ∧ cap' = cap := by
      injection hv with h1 h2 h3
      injection h1 with h1
      injection h1 with h4 h5
      exact ⟨h4.symm, h5.symm, h3.symm⟩
    obtain ⟨c', e1, e2, e3⟩ := setCells_block ys off' w cur hg (by omega)
    refine ⟨by omega, .inr ⟨g', off', cap', c', rfl, e1, hn, hm, by omega, ?_⟩⟩
    have hl : (cur.toList.take off').length = off' := by rw [List.length_take, Array.length_toList]; omega
    rw [e3, List.append_assoc, List.drop_left' hl, List.take_left' (by omega)]
theorem setCells_kept (w : World) (g off : Nat) (ys : List Value) : Kept (fun k => k = g) w (w.setCells g off ys) := by
  obtain ⟨f1, f2, f3, f4⟩ := setCells_facts g ys off w
  exact ⟨f2, f3, f4, by omega, fun k _ hne => setCells_other _ _ _ _ _ hne⟩

theorem sort_nil (w : World) : Calls Tryz.prog 22 #[.slice none 0 0] w fun e w' => e = .returned (.tuple #[]) ∧ w = w' :=
  (Tryz.slices_Sort_string_none none 0 w).mono fun e w' h => ⟨h.1, h.2.symm⟩

theorem sort_strs (v : Value) (ks : List ByteArray) (w : World) (h : Sl w 9 1 ks.length v (strs ks)) (hn : ks.length ≤ 1000000) :
    Calls Tryz.prog 22 #[v] w fun e w' => e = .returned (.tuple #[]) ∧ Sl w' 9 1 ks.length v (strs (sortB ks)) ∧ Kept (fun k => v.ownBlock = some k) w w' := by
  rcases h.form with ⟨rfl, h0, h00⟩ | ⟨g, off, cap, rfl, hc, hlt⟩
  · refine ((show Calls Tryz.prog 22 #[.slice none 0 0] w _ from Tryz.slices_Sort_string_none none 0 w)).mono ?_
    rintro e w' ⟨rfl, rfl⟩
    obtain rfl : ks = [] := List.eq_nil_of_length_eq_zero h0
    exact ⟨rfl, by rw [show sortB [] = [] from List.eq_nil_of_length_eq_zero (by rw [sortB_length]; rfl)]; exact h, Kept.refl _ _⟩
  · have hs := h.cell rfl
    have hH : Go.Sort.Holds Go.Proofs.encStr w g off (ks.map fun k => k.data.toList).toArray := by
      intro j hj
      have hj' : j < ks.length := by simpa using hj
      have h1 := hs j (.string ks[j]) (by simp [strs, List.getElem?_eq_getElem hj'])
      rw [Addr.add_lit] at h1
      refine ⟨?_, ?_⟩
      · rw [h1]
        simp [hj', Go.Proofs.encStr]
      · rcases h.2 with ⟨hv, _⟩ | ⟨g', off', cap', cur, hv, hg, _⟩
        · cases hv
        · injection hv with h2
          injection h2 with h2
          injection h2 with h3 h4
          subst h3 h4
          exact frozen_at hg _
    have hc := Tryz.slices_Sort_string g off cap (ks.map fun k => k.data.toList) w hH hlt (by simp; omega)
    rw [List.length_map] at hc
    refine hc.mono ?_
    rintro e w' ⟨rfl, q, os, rfl⟩
    rw [Go.Lib.sorted_world _ w g off q _ _ os hH (by simp [List.length_mergeSort])]
    have hm : ((ks.map fun k => k.data.toList).mergeSort fun x y => decide (x ≤ y)).map Go.Proofs.encStr = strs (sortB ks) := by
      simp [strs, sortB, Go.Proofs.encStr]
    rw [hm]
    refine ⟨rfl, ?_, ?_⟩
    · exact ((h.drew.fill (w := w.drewN q) (ys := strs (sortB ks)) (by rw [strs_length, sortB_length]))).kept (grow_kept _ _) (fun _ _ h => h)
    · exact ((((Kept.refl _ w).drewN q).trans (setCells_kept _ g off _) (fun i _ e => by rw [e]; rfl)).trans (grow_kept _ _) (fun _ _ h => h.elim))
end Go.Proofs.YthdondhpgmjmpaaGreat
