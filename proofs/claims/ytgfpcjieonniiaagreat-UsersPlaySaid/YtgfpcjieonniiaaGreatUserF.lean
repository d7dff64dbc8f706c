/-
  Users.Names: the names, rising, in a slice of their own.
-/
import Derived.Test.YtgfpcjieonniiaaGreatUserE
import Derived.Sort.Walk0
namespace Go.Proofs.YtgfpcjieonniiaaGreat
set_option linter.unusedVariables false
set_option linter.unusedSimpArgs false
set_option linter.unnecessarySimpa false
open Go.RowKit Go.Maps

/-- Strings, sorted by their bytes. -/
def bytesLe (x y : ByteArray) : Prop := x.data.toList ≤ y.data.toList
def sortB (ks : List ByteArray) : List ByteArray := ((ks.map fun k => k.data.toList).mergeSort fun x y => decide (x ≤ y)).map fun l => ⟨l.toArray⟩
theorem sortB_length (ks : List ByteArray) : (sortB ks).length = ks.length := by simp [sortB, List.length_mergeSort]
theorem back_forth (ks : List ByteArray) : (ks.map fun k => k.data.toList).map (fun l => (⟨l.toArray⟩ : ByteArray)) = ks := by
  rw [List.map_map]
  have : ((fun l => (⟨l.toArray⟩ : ByteArray)) ∘ fun k : ByteArray => k.data.toList) = id := by
    funext k
    simp
  rw [this, List.map_id]
theorem sortB_perm (ks : List ByteArray) : (sortB ks).Perm ks := by
  unfold sortB
  have h := (List.mergeSort_perm (ks.map fun k => k.data.toList) (fun x y => decide (x ≤ y))).map (fun l => (⟨l.toArray⟩ : ByteArray))
  rw [back_forth] at h
  exact h
theorem sortB_sorted (ks : List ByteArray) : (sortB ks).Pairwise bytesLe := by
  unfold sortB
  rw [List.pairwise_map]
  have h := List.pairwise_mergeSort (le := fun x y : List UInt8 => decide (x ≤ y)) (fun a b c h1 h2 => by simp at h1 h2 ⊢; exact List.le_trans h1 h2) (fun a b => by simp; exact List.le_total a b) (ks.map fun k => k.data.toList)
  exact h.imp (fun h => by simpa [bytesLe] using h)
theorem bytesLe_antisymm {x y : ByteArray} (h : bytesLe x y) (k : bytesLe y x) : x = y := by
  have := List.le_antisymm h k
  exact ByteArray.ext (Array.ext' this)
/-- Two sorted lists of the same strings are the same. -/
theorem sorted_unique {l m : List ByteArray} (hp : l.Perm m) (hl : l.Pairwise bytesLe) (hm : m.Pairwise bytesLe) : l = m :=
  hp.eq_of_pairwise (fun _ _ _ _ h1 h2 => bytesLe_antisymm h1 h2) hl hm
theorem sortB_congr {l m : List ByteArray} (hp : l.Perm m) : sortB l = sortB m :=
  sorted_unique ((sortB_perm l).trans (hp.trans (sortB_perm m).symm)) (sortB_sorted l) (sortB_sorted m)
theorem sortB_of_sorted {l m : List ByteArray} (hp : m.Perm l) (hm : m.Pairwise bytesLe) : sortB l = m :=
  sorted_unique ((sortB_perm l).trans hp.symm) (sortB_sorted l) hm

/-- Keys that are sorted rise. -/
theorem key_less {ks : List ByteArray} (hn : ks.Nodup) {j : Nat} (h0 : 0 < j) (h : j < (sortB ks).length) : Op.bytesLess ((sortB ks)[j - 1]'(by omega)).toList ((sortB ks)[j]'h).toList = true := by
  have h1 := List.pairwise_iff_getElem.1 (sortB_sorted ks) (j - 1) j (by omega) (by omega) (by omega)
  have h2 := List.pairwise_iff_getElem.1 ((sortB_perm ks).nodup_iff.2 hn) (j - 1) j (by omega) (by omega) (by omega)
  rw [ByteArray.toList_eq, ByteArray.toList_eq, bytesLess_eq]
  by_cases hlt : ((sortB ks)[j - 1]'(by omega)).data.toList < ((sortB ks)[j]'h).data.toList
  · exact decide_eq_true hlt
  · exact absurd (bytesLe_antisymm h1 (List.not_lt.1 hlt)) h2

/-- A slice of one's own with these names, sorted. -/
def NamesFull (w : World) (ns : List ByteArray) (e : Ending) (w' : World) : Prop := ∃ v, e = .returned v ∧ Sl w' 9 1 ns.length v ((sortB ns).map Value.string) ∧ Kept (fun _ => False) w w' ∧ ∀ k, v.ownBlock = some k → w.heap.size ≤ k
theorem full_of_owns {w w1 w' : World} {v : Value} {ss : List (List UInt8)} {ns : List ByteArray} (hk : Kept (fun _ => False) w w1) (hp : ss.Perm (ns.map fun n => n.data.toList)) (h : w'.ownsRow w1.heap.size 9 1 v ss.length ((ss.mergeSort (fun x y => decide (x ≤ y))).map encStr)) (hb : Below w1.heap.size w1 w') : NamesFull w ns (.returned v) w' := by
  have e : (ss.mergeSort (fun x y => decide (x ≤ y))).map encStr = (sortB ns).map Value.string := by
    have h1 : (ss.mergeSort (fun x y => decide (x ≤ y))) = ((ns.map fun n => n.data.toList).mergeSort (fun x y => decide (x ≤ y))) := by
      refine (((List.mergeSort_perm ss _).trans hp).trans (List.mergeSort_perm _ _).symm).eq_of_pairwise (le := fun x y : List UInt8 => x ≤ y) (fun _ _ _ _ h1 h2 => List.le_antisymm h1 h2) ?_ ?_
      · exact (List.pairwise_mergeSort (le := fun x y : List UInt8 => decide (x ≤ y)) (fun a b c h1 h2 => by simp at h1 h2 ⊢; exact List.le_trans h1 h2) (fun a b => by simp; exact List.le_total a b) ss).imp (fun h => by simpa using h)
      · exact (List.pairwise_mergeSort (le := fun x y : List UInt8 => decide (x ≤ y)) (fun a b c h1 h2 => by simp at h1 h2 ⊢; exact List.le_trans h1 h2) (fun a b => by simp; exact List.le_total a b) _).imp (fun h => by simpa using h)
    rw [h1]
    unfold sortB
    rw [List.map_map]
    rfl
  have hl : ss.length = ns.length := by rw [hp.length_eq, List.length_map]
  rw [e, hl] at h
  refine ⟨v, rfl, Sl.of_owns h, hk.trans (Kept.of_below hb) (fun _ _ h => h), fun k hk' => ?_⟩
  rcases h.2 with ⟨rfl, _⟩ | ⟨g, cap, cur, rfl, hb', _⟩
  · cases hk'
  · simp [Value.ownBlock] at hk'
    have := hk.size
    omega

set_option maxRecDepth 100000 in
set_option maxHeartbeats 800000 in
theorem names_full (b m : Nat) (L : List Usr) (w : World) (h : UsersAt w b m L) (hl : L.length ≤ 1000) :
    Calls Tryz.prog 12 #[.pointer (some ⟨b, 0, none⟩)] w (NamesFull w (L.map (·.name))) := by
  have k0 := cell_at h.box 0
  simp at k0
  obtain ⟨D, hown, hsz, htidy, hD⟩ := h.map
  have hperm : (L.map (fun x => x.name.data.toList)).Perm (strKeys D) := by
    refine Collected.perm (left := fun _ => false) ⟨?_, fun x => ?_⟩ hown skey Tryz.underlying9 (fun _ => rfl)
    · have := h.names
      rw [show (L.map (fun x => x.name.data.toList)) = (L.map (·.name)).map (fun k => k.data.toList) by rw [List.map_map]; rfl]
      exact List.Pairwise.map _ (fun a b hab e => hab (bytes_ext e)) this
    · have := hD (.string x)
      rw [List.mem_map]
      cases hs : L.find? (fun y => y.name.data.toList == x) with
      | none =>
        simp only [atName, hs, Option.map_none] at this
        have h2 := List.find?_eq_none.1 hs
        constructor
        · rintro ⟨y, hy, rfl⟩
          exact absurd (beq_self_eq_true _) (h2 y hy)
        · intro hh
          rw [this] at hh
          simp at hh
      | some y =>
        simp only [atName, hs, Option.map_some] at this
        have h2 := List.find?_some hs
        have h3 := List.mem_of_find?_eq_some hs
        constructor
        · intro _
          simp [this.1]
        · intro _
          exact ⟨y, h3, by simpa using h2⟩
  have hlen := hperm.length_eq
  rw [List.length_map] at hlen
  have FIN := Lib.hid (fun (v : Value) (w1 w' : World) (ss : List (List UInt8)) (hk : Kept (fun _ => False) w w1) (hs : ss.Perm (strKeys D)) h hb => full_of_owns (w := w) (w1 := w1) (w' := w') (v := v) (ss := ss) hk (hs.trans (by rw [List.map_map]; exact hperm.symm)) h hb)
  have SK := Lib.hid (fun (W : World) (hW : W.ownsMap Tryz.prog 9 asIs m (size D) D) => Tryz.sorted_keys m (size D) D asIs W hW (by rw [hsz]; unfold maxLen; omega) (by rw [hsz]; omega))
  have OWN := Lib.hid (Mp.exact hown)
  clear h hperm hD htidy hown hsz hlen
  go_enter Tryz.func12, Tryz.ntmps12
  go_wp2_with fail
  refine (Tryz.maps_Keys (some m) _).mono ?_
  rintro e w1 ⟨rfl, rfl⟩
  go_wp2_with fail
  refine (SK.out _ OWN.out).mono ?_
  rintro e w2 ⟨v, ss, rfl, hs, hrow, _, hb⟩
  have HF := Lib.hid (FIN.out v _ w2 ss ((Kept.refl _ w).alloc _) hs hrow hb)
  clear hs hrow hb
  go_wp2_with fail
  go_ret
  exact HF.out
end Go.Proofs.YtgfpcjieonniiaaGreat
