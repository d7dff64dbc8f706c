/-
  Package table's walks, the fourth part: grow.
-/
import Derived.Test.YtekcjoogggoijaaGreatDoorCp04
import Derived.BigRegion
set_option linter.unusedVariables false
set_option linter.unusedSimpArgs false
set_option linter.unnecessarySimpa false
namespace Go.Proofs.YtekcjoogggoijaaGreatDoor
open Go.RowKit
set_option maxRecDepth 100000

theorem item_info : (Tryz.prog.info? 44).map (fun i => (i.zero, i.size, i.bytes)) = some (some (.agg #[.string ByteArray.empty, .string ByteArray.empty, .int .i64 0, .int .i64 0]), 4, 48) := by kernel_rfl

theorem rows_perm (f : It → Nat) (L : List It) : ∀ n : Nat, ((List.range n).map (fun i => L.filter (fun x => f x == i))).flatten.Perm (L.filter (fun x => decide (f x < n)))
  | 0 => by simp
  | n + 1 => by
    rw [List.range_succ, List.map_append, List.flatten_append]
    have ih := rows_perm f L n
    have h := List.filter_append_perm (fun x => decide (f x < n)) (L.filter (fun x => decide (f x < n + 1)))
    rw [List.filter_filter, List.filter_filter] at h
    have e1 : L.filter (fun x => decide (f x < n) && decide (f x < n + 1)) = L.filter (fun x => decide (f x < n)) := by
      apply List.filter_congr
      intro x _
      rw [Bool.eq_iff_iff]
      simp
      omega
    have e2 : L.filter (fun x => !decide (f x < n) && decide (f x < n + 1)) = L.filter (fun x => f x == n) := by
      apply List.filter_congr
      intro x _
      rw [Bool.eq_iff_iff]
      simp
      omega
    rw [e1, e2] at h
    refine List.Perm.trans ?_ h
    simp only [List.map_cons, List.map_nil, List.flatten_cons, List.flatten_nil, List.append_nil]
    exact ih.append_right _
/-- All rows, one behind the other. -/
def allRows (seed S : Nat) (L : List It) : List (List It) := (List.range S).map (rowOf seed S L)
theorem allRows_perm {seed S : Nat} (L : List It) (h : 0 < S) : (allRows seed S L).flatten.Perm L := by
  refine (rows_perm (fun x => slotOf seed S x.key) L S).trans ?_
  rw [List.filter_eq_self.2 (fun x _ => decide_eq_true (slotOf_lt x.key h))]
theorem allRows_at {seed S : Nat} {L : List It} {i : Nat} (h : i < S) : (allRows seed S L)[i]? = some (rowOf seed S L i) := by
  unfold allRows
  rw [List.getElem?_map, List.getElem?_range h]
  rfl
theorem allRows_length (seed S : Nat) (L : List It) : (allRows seed S L).length = S := by simp [allRows]
theorem flatten_take_succ {α : Type} {l : List (List α)} {i : Nat} {r : List α} (h : l[i]? = some r) : (l.take (i + 1)).flatten = (l.take i).flatten ++ r := by
  obtain ⟨hi, e⟩ := List.getElem?_eq_some_iff.1 h
  rw [List.take_succ_eq_append_getElem hi, List.flatten_append, e]
  simp
theorem flatten_take_le {α : Type} (l : List (List α)) (i : Nat) : (l.take i).flatten.length ≤ l.flatten.length := by
  have h : l.flatten = (l.take i).flatten ++ (l.drop i).flatten := by rw [← List.flatten_append, List.take_append_drop]
  rw [h, List.length_append]
  omega

theorem setCells_drop {c : List Value} {off n i : Nat} {B : List Value} (hB : B.length = 4) (hi : i < n) (hl : off + n * 4 ≤ c.length) :
    ((c.take (off + i * 4) ++ B ++ c.drop (off + i * 4 + 4)).drop off).take (n * 4) = ((c.drop off).take (n * 4)).take (i * 4) ++ B ++ ((c.drop off).take (n * 4)).drop (i * 4 + 4) := by
  have hA : (c.take (off + i * 4)).length = off + i * 4 := by rw [List.length_take]; omega
  rw [List.append_assoc, List.drop_append_of_le_length (by omega), List.drop_take, show off + i * 4 - off = i * 4 by omega]
  have hA2 : ((c.drop off).take (i * 4)).length = i * 4 := by rw [List.length_take, List.length_drop]; omega
  rw [List.take_append, hA2, List.take_of_length_le (l := (c.drop off).take (i * 4)) (by omega), List.take_append, hB, List.take_of_length_le (l := B) (by omega)]
  rw [List.take_take, show min (i * 4) (n * 4) = i * 4 by omega, List.drop_take, List.drop_drop, List.append_assoc]
  congr 3

/-- An element set in a slice's own row. -/
theorem Sl.set {w : World} {E : TypeId} {n : Nat} {g off cap : Nat} {l : List It} (h : Sl w E 4 n (.slice (some ⟨g, off, none⟩) n cap) (flat l)) (i : Nat) (hi : i < n) (x : It) :
    Sl (w.setCells g (off + i * 4) x.cells) E 4 n (.slice (some ⟨g, off, none⟩) n cap) (flat (l.set i x)) := by
  have hl : l.length = n := by have := h.1; rw [flat_length] at this; omega
  rcases h.2 with ⟨hv, _⟩ | ⟨g', off', cap', cur, hv, hg, hn, hm, hs, ht⟩
  · cases hv
  · obtain ⟨rfl, rfl, rfl⟩ : g' = g ∧ off' = off ∧ cap' = cap := by
      injection hv with h1 h2 h3
      injection h1 with h1
      injection h1 with h4 h5
      exact ⟨h4.symm, h5.symm, h3.symm⟩
    have hfit : off' + n * 4 ≤ cur.toList.length := by simp; have : n * 4 ≤ cap' * 4 := Nat.mul_le_mul_right _ hn; omega
    obtain ⟨c', e1, e2, e3⟩ := setCells_block x.cells (off' + i * 4) w cur hg (by simp [It.cells]; simp at hfit; omega)
    refine ⟨by rw [flat_length, List.length_set, hl], .inr ⟨g', off', cap', c', rfl, e1, hn, hm, by omega, ?_⟩⟩
    rw [e3, flat_set l x i (by omega), ← ht]
    exact setCells_drop rfl hi hfit

section
variable {w : World} {b : Nat} {O : Nat → Prop} {seed : Nat} {n : Int} {S : Nat} {sema : Value} {g : Nat} {vs : List Value} {L : List It}

/-- The count. -/
theorem TabAt.count (h : TabAt w b O seed n S sema g vs L) (m : Int) : TabAt (w.setCell ⟨b, 5, none⟩ (.int .i64 m)) b O seed m S sema g vs L := by
  have hk : Kept (fun k => k = b) w (w.setCell ⟨b, 5, none⟩ (.int .i64 m)) := kept_at _ (Kept.refl _ _)
  refine ⟨by rw [setCell_block h.blk]; rfl, ⟨(hk.block g (lt_of_block h.rows.blk) h.gb).trans h.rows.blk, h.rows.len, h.rows.own, fun i u hu => (h.rows.row i u hu).kept hk (fun k hv e => h.vb i u hu (by rw [hv, e])), h.rows.mine, h.rows.apart⟩, h.ownb, h.gb, h.vb, fun k hk => ?_, h.seed_lt, h.pos⟩
  have := h.lt k hk
  simpa [World.setCell] using this

/-- An item in place of the one with its key. -/
theorem TabAt.set (h : TabAt w b O seed n S sema g vs L) (hn : (keys L).Nodup) (x : It) {i m ca g2 off : Nat} {y : It} (hy : (rowOf seed S L (slotOf seed S x.key))[i]? = some y) (hk : y.key = x.key)
    (hu : vs[slotOf seed S x.key]? = some (.slice (some ⟨g2, off, none⟩) m ca)) :
    TabAt (w.setCells g2 (off + i * 4) x.cells) b O seed n S sema g vs (repL L x) ∧ Kept O w (w.setCells g2 (off + i * 4) x.cells) := by
  obtain ⟨f1, f2, f3, f4⟩ := setCells_facts g2 x.cells (off + i * 4) w
  have hO := h.rows.mine _ _ g2 hu rfl
  have hk2 : Kept (fun k => k = g2) w (w.setCells g2 (off + i * 4) x.cells) := ⟨f2, f3, f4, by omega, fun k _ hne => setCells_other _ _ _ _ _ hne⟩
  have hsl := h.rows.row _ _ hu
  have hm : m = (rowOf seed S L (slotOf seed S x.key)).length := by
    obtain ⟨h1, _, _⟩ := (Rd.of_sl hsl).at
    exact h1
  have hrow := rep_set x _ i y (row_nodup seed S (slotOf seed S x.key) hn) hy hk
  have him : i < m := by
    obtain ⟨hi, _⟩ := List.getElem?_eq_some_iff.1 hy
    omega
  refine ⟨⟨(hk2.block b (lt_of_block h.blk) (fun e => h.vb _ _ hu (by rw [e]; rfl))).trans h.blk,
    ⟨(hk2.block g (lt_of_block h.rows.blk) (fun e => hO.2 e.symm)).trans h.rows.blk, h.rows.len, h.rows.own, ?_, h.rows.mine, h.rows.apart⟩, h.ownb, h.gb, h.vb, fun k hk => by rw [f1]; exact h.lt k hk, h.seed_lt, h.pos⟩, hk2.mono (fun k _ e => by rw [e]; exact hO.1)⟩
  intro j u hju
  by_cases hj : j = slotOf seed S x.key
  · subst hj
    rw [hu] at hju
    injection hju with hju
    subst hju
    rw [row_rep, hrow, List.length_set, ← hm]
    rw [← hm] at hsl
    exact hsl.set i him x
  · rw [row_rep_other L x seed S j hj]
    exact (h.rows.row j u hju).kept hk2 (fun k hv e => hj (h.rows.apart _ _ _ _ k hju hu hv (by rw [e]; rfl)))

/-- An item behind its slot's row. -/
theorem TabAt.push (h : TabAt w b O seed n S sema g vs L) (x : It) {u : Value} (hu : vs[slotOf seed S x.key]? = some u) {w2 : World} {g2 off m cap : Nat}
    (hs : Sl w2 44 4 (m + 1) (.slice (some ⟨g2, off, none⟩) (m + 1) cap) (flat (rowOf seed S L (slotOf seed S x.key)) ++ x.cells)) (hm : m = (rowOf seed S L (slotOf seed S x.key)).length)
    (hk : Kept (fun k => u.ownBlock = some k) w w2) (hg : u.ownBlock = some g2 ∨ w.heap.size ≤ g2) :
    TabAt (w2.setCell ⟨g, slotOf seed S x.key, none⟩ (.slice (some ⟨g2, off, none⟩) (m + 1) cap)) b (fun k => O k ∨ k = g2) seed n S sema g (vs.set (slotOf seed S x.key) (.slice (some ⟨g2, off, none⟩) (m + 1) cap)) (L ++ [x]) ∧
      Grew O w (fun k => O k ∨ k = g2) (w2.setCell ⟨g, slotOf seed S x.key, none⟩ (.slice (some ⟨g2, off, none⟩) (m + 1) cap)) := by
  have hlen := h.rows.len
  have hslt := slotOf_lt (seed := seed) x.key h.pos
  have hug : u.ownBlock ≠ some g := fun e => (h.rows.mine _ _ g hu e).2 rfl
  have hub : u.ownBlock ≠ some b := h.vb _ _ hu
  have hgl := lt_of_block h.rows.blk
  have hbl := lt_of_block h.blk
  have hg2g : g2 ≠ g := by
    rcases hg with e | e
    · exact fun e' => hug (by rw [e, e'])
    · omega
  have hg2b : g2 ≠ b := by
    rcases hg with e | e
    · exact fun e' => hub (by rw [e, e'])
    · omega
  have hb2 := (hk.block b hbl hub).trans h.blk
  have hgg := (hk.block g hgl hug).trans h.rows.blk
  have hg2s := hs.lt (k := g2) rfl
  have hsz := hk.size
  have hO2 : O g2 ∨ w.heap.size ≤ g2 := hg.imp (fun e => (h.rows.mine _ _ g2 hu e).1) id
  have hnew : ∀ (j : Nat) (u' : Value), j ≠ slotOf seed S x.key → vs[j]? = some u' → u'.ownBlock ≠ some g2 := by
    intro j u' hj hu' e
    rcases hg with e' | e'
    · exact hj (h.rows.apart _ _ _ _ g2 hu' hu e e')
    · have := h.lt _ (h.rows.mine _ _ g2 hu' e).1
      omega
  have hat : ∀ (j : Nat) (u' : Value), (vs.set (slotOf seed S x.key) (.slice (some ⟨g2, off, none⟩) (m + 1) cap))[j]? = some u' →
      (j = slotOf seed S x.key ∧ u' = .slice (some ⟨g2, off, none⟩) (m + 1) cap) ∨ (j ≠ slotOf seed S x.key ∧ vs[j]? = some u') := by
    intro j u' hj
    rw [List.getElem?_set] at hj
    split at hj
    · rename_i e
      split at hj
      · exact .inl ⟨e.symm, (Option.some.inj hj).symm⟩
      · cases hj
    · rename_i e
      exact .inr ⟨fun e' => e e'.symm, hj⟩
  refine ⟨⟨(Below.heap_setCell _ _ _ _ h.gb.symm).trans hb2, ⟨?_, by rw [List.length_set]; exact hlen, .inl h.rows.own, ?_, ?_, ?_⟩, .inl h.ownb, h.gb, ?_, ?_, h.seed_lt, h.pos⟩, ?_, ?_⟩
  · rw [setCell_block hgg]
    congr 1
    congr 1
    apply Array.ext'
    simp
  · intro j u' hj
    rcases hat j u' hj with ⟨rfl, rfl⟩ | ⟨hne, hj'⟩
    · rw [row_snoc_same, List.length_append, ← hm, flat_append]
      exact (show Sl w2 _ 4 (m + 1) _ (flat _ ++ flat [x]) by simpa [flat] using hs).setOther (by simpa [Value.ownBlock] using hg2g) _ _
    · rw [row_snoc_other L x seed S j hne]
      refine ((h.rows.row j u' hj').kept hk (fun k hv e => hne (h.rows.apart _ _ _ _ k hj' hu hv e))).setOther (fun e => (h.rows.mine _ _ g hj' e).2 rfl) _ _
  · intro j u' k hj hv
    rcases hat j u' hj with ⟨rfl, rfl⟩ | ⟨hne, hj'⟩
    · simp [Value.ownBlock] at hv
      subst hv
      exact ⟨.inr rfl, hg2g⟩
    · exact ⟨.inl (h.rows.mine _ _ k hj' hv).1, (h.rows.mine _ _ k hj' hv).2⟩
  · intro j j' u' u'' k hj hj' hv hv'
    rcases hat j u' hj with ⟨rfl, rfl⟩ | ⟨hne, hj1⟩
    · rcases hat j' u'' hj' with ⟨rfl, rfl⟩ | ⟨hne', hj2⟩
      · rfl
      · simp [Value.ownBlock] at hv
        subst hv
        exact absurd hv' (hnew _ _ hne' hj2)
    · rcases hat j' u'' hj' with ⟨rfl, rfl⟩ | ⟨hne', hj2⟩
      · simp [Value.ownBlock] at hv'
        subst hv'
        exact absurd hv (hnew _ _ hne hj1)
      · exact h.rows.apart _ _ _ _ k hj1 hj2 hv hv'
  · intro j u' hj
    rcases hat j u' hj with ⟨rfl, rfl⟩ | ⟨hne, hj'⟩
    · simpa [Value.ownBlock] using hg2b
    · exact h.vb _ _ hj'
  · intro k hk'
    rcases hk' with hk' | rfl
    · have := h.lt k hk'
      simp [World.setCell]
      omega
    · simpa [World.setCell] using hg2s
  · refine (hk.mono (fun k _ e => (h.rows.mine _ _ k hu e).1)).setCell (p := ⟨g, slotOf seed S x.key, none⟩) (fun _ => h.rows.own) _
  · intro k hk'
    rcases hk' with hk' | rfl
    · exact .inl hk'
    · exact hO2
end

theorem TabAt.sees {w w2 : World} {b : Nat} {O T : Nat → Prop} {seed : Nat} {n : Int} {S : Nat} {sema : Value} {g : Nat} {vs : List Value} {L : List It} (h : TabAt w b O seed n S sema g vs L) {s : Nat} {u : Value} (hu : vs[s]? = some u) (hk : Kept T w w2) (hb : ¬ T b) (hg : ¬ T g) :
    w2.cell? ⟨b, 4, none⟩ = some (.slice (some ⟨g, 0, none⟩) S S) ∧ w2.cell? ⟨g, s, none⟩ = some u ∧ w2.frozen? ⟨g, s, none⟩ = false := by
  have h1 := (hk.block b (lt_of_block h.blk) hb).trans h.blk
  have h2 := (hk.block g (lt_of_block h.rows.blk) hg).trans h.rows.blk
  exact ⟨by simpa using cell_at h1 4, by rw [cell_at h2]; simpa using hu, frozen_at h2 s⟩
end Go.Proofs.YtekcjoogggoijaaGreatDoor
namespace Go.Proofs.YtekcjoogggoijaaGreatDoor
open Go.RowKit
set_option maxRecDepth 100000

/-- A table whose slots are new: it holds nothing yet; the elder rows are as they were. -/
theorem tab_anew {w : World} {b : Nat} {O : Nat → Prop} {seed : Nat} {n : Int} {S : Nat} {sema : Value} {g : Nat} {vs : List Value} {L : List It} (h : TabAt w b O seed n S sema g vs L) (m : Nat) (hm : 0 < m) {w' : World}
    (hw : w' = (w.alloc (.cells (List.replicate m (Value.slice none 0 0)).toArray 45)).setCell ⟨b, 4, none⟩ (.slice (some ⟨w.heap.size, 0, none⟩) m m)) :
    TabAt w' b (fun k => k = b ∨ k = w.heap.size) seed n m sema w.heap.size (List.replicate m (.slice none 0 0)) [] ∧ Kept (fun k => k = b) w w' := by
  subst hw
  have hb := lt_of_block h.blk
  have hx : ∀ (i : Nat) (u : Value), (List.replicate m (Value.slice none 0 0))[i]? = some u → u = .slice none 0 0 := by
    intro i u hu
    rw [List.getElem?_replicate] at hu
    split at hu <;> simp_all
  refine ⟨⟨?_, ⟨?_, by simp, .inr rfl, ?_, ?_, ?_⟩, .inl rfl, by omega, ?_, ?_, h.seed_lt, hm⟩, kept_at _ ((Kept.refl _ w).alloc _)⟩
  · rw [setCell_block ((Below.heap_alloc _ _ _ hb).trans h.blk)]; rfl
  · rw [Below.heap_setCell _ _ _ _ (by simp; omega)]
    exact heap_alloc_new w _
  · intro i u hu
    rw [hx i u hu]
    exact Sl.nil _ _ _
  · intro i u k hu hk
    rw [hx i u hu] at hk
    cases hk
  · intro i j u u' k hu _ hk
    rw [hx i u hu] at hk
    cases hk
  · intro i u hu
    rw [hx i u hu]
    simp [Value.ownBlock]
  · intro k hk
    simp [World.setCell]
    omega

theorem TabAt.old {w : World} {b : Nat} {O : Nat → Prop} {seed : Nat} {n : Int} {S : Nat} {sema : Value} {g : Nat} {vs : List Value} {L : List It} (h : TabAt w b O seed n S sema g vs L) (wr : World) (hk : Kept (fun k => k = b) w wr) :
    RowsAt wr g S (fun k => O k ∧ k ≠ b) (rowOf seed S L) vs :=
  (show RowsAt w g S (fun k => O k ∧ k ≠ b) (rowOf seed S L) vs from ⟨h.rows.blk, h.rows.len, ⟨h.rows.own, h.gb⟩, h.rows.row, fun i u k hu hv => ⟨⟨(h.rows.mine i u k hu hv).1, fun e => h.vb i u hu (by rw [hv, e])⟩, (h.rows.mine i u k hu hv).2⟩, h.rows.apart⟩).kept hk (fun k hO e => hO.2 e)

/-- While it grows: the new slots hold the items of M. -/
def GrowJ (w wr : World) (b seed : Nat) (n : Int) (S : Nat) (M : List It) : Prop := ∃ O' sema g vs, TabAt wr b O' seed n (2 * S) sema g vs M ∧ Grew (fun k => k = b) w O' wr

def Grown (w : World) (b : Nat) (O : Nat → Prop) (seed : Nat) (n : Int) (S : Nat) (L : List It) (e : Ending) (w' : World) : Prop :=
  e = .returned (.tuple #[]) ∧ ∃ O' sema g vs M, M.Perm L ∧ TabAt w' b O' seed n (2 * S) sema g vs M ∧ Grew O w O' w'

set_option maxHeartbeats 4000000 in
theorem grow_any (b : Nat) (O : Nat → Prop) (seed : Nat) (n : Int) (S : Nat) (sema : Value) (g : Nat) (vs : List Value) (L : List It) (w : World) (h : TabAt w b O seed n S sema g vs L) (hS : S ≤ 400000) (hL : L.length ≤ 400000) (hks : ∀ x ∈ L, x.key.size ≤ 1000000000) :
    Calls Tryz.prog 121 #[.pointer (some ⟨b, 0, none⟩)] w (Grown w b O seed n S L) := by
  obtain ⟨i0, hi, hz0, hz1, hz2⟩ := info_parts item_info
  have k4 := cell_at h.blk 4
  have f4 := frozen_at h.blk 4
  simp at k4
  have hmk := fun w => make_rows (2 * S) (by omega) w
  have e2 : ((2 * S : Nat) : Int) = 2 * (S : Int) := by omega
  have hpos := h.pos
  obtain ⟨W, hW⟩ : ∃ W, W = (w.alloc (.cells (List.replicate (2 * S) (Value.slice none 0 0)).toArray 45)).setCell ⟨b, 4, none⟩ (.slice (some ⟨w.heap.size, 0, none⟩) (2 * S) (2 * S)) := ⟨_, rfl⟩
  obtain ⟨hT0, hk0⟩ := tab_anew h (2 * S) (by omega) hW
  obtain ⟨R, hR⟩ : ∃ R, R = Obj.cells (List.replicate (2 * S) (Value.slice none 0 0)).toArray 45 := ⟨_, rfl⟩
  rw [← hR] at hW
  simp only [← hR, e2] at hmk
  have a4 : ∀ o, (w.alloc o).cell? ⟨b, 4, none⟩ = some (.slice (some ⟨g, 0, none⟩) S S) := fun o => (cell_alloc_lt (by exact lt_of_block h.blk)).trans k4
  have g4 : ∀ o, (w.alloc o).frozen? ⟨b, 4, none⟩ = false := fun o => frozen_at (T := 113) ((Below.heap_alloc _ _ _ (lt_of_block h.blk)).trans h.blk) _
  have hj0 : GrowJ w W b seed n S [] := ⟨_, _, _, _, hT0, hk0, fun k hk => hk.imp id (fun e => by omega)⟩
  have fin : ∀ wr, GrowJ w wr b seed n S (allRows seed S L).flatten → Grown w b O seed n S L (.returned (.tuple #[])) wr := by
    rintro wr ⟨O', sema', g', vs', h1, h2⟩
    exact ⟨rfl, O', sema', g', vs', _, allRows_perm L hpos, h1, h2.1.mono (fun k _ e => by rw [e]; exact h.ownb), fun k hk => (h2.2 k hk).imp (fun e => by rw [e]; exact h.ownb) id⟩
  have old := h.old
  have hlen := h.rows.len
  have hML : ∀ i, ((allRows seed S L).take i).flatten.length ≤ L.length := fun i => by rw [← (allRows_perm (seed := seed) (S := S) L hpos).length_eq]; exact flatten_take_le _ _
  have OLD := Lib.hid old
  have FIN := Lib.hid fin
  have J0 := Lib.hid hj0
  have HML := Lib.hid hML
  have HLEN := Lib.hid hlen
  have HKS := Lib.hid hks
  clear old fin hj0 hML hT0 hk0 hR e2 hlen hks h
  go_enter Tryz.func121, Tryz.ntmps121
  go_wp2_with fail
  go_loopg [22] S (fun gk k wr => ∃ i : Nat, i + gk = S ∧ k = .int .i64 (i : Int) ∧ GrowJ w wr b seed n S ((allRows seed S L).take i).flatten)
  case atStart => exact ⟨0, by omega, rfl, by first | exact J0.out | (rw [← hW]; exact J0.out)⟩
  case round =>
    obtain ⟨i, hi', rfl, hj⟩ := hrel
    by_cases hlt : i < S
    · obtain ⟨O1, sema1, g1, vs1, hT1, hG1⟩ := hj
      have hold := OLD.out _ hG1.1
      obtain ⟨u, hu⟩ : ∃ u, vs[i]? = some u := ⟨_, List.getElem?_eq_getElem (by rw [HLEN.out]; exact hlt)⟩
      have hsl := hold.row _ _ hu
      have ug : wr.cell? ⟨g, i, none⟩ = some u := by rw [cell_at hold.blk]; simpa using hu
      obtain ⟨ao, ca, rfl, hca⟩ := (Rd.of_sl hsl).shape
      have hrow : ∀ wr', Kept (fun k => k = b) w wr' → ∀ j (hj : j < (rowOf seed S L i).length), _ := fun wr' hk j hj => rd_it (Rd.of_sl ((OLD.out wr' hk).row _ _ hu)) rfl j hj
      have hnext := flatten_take_succ (allRows_at (seed := seed) (L := L) hlt)
      have hml := HML.out (i + 1)
      rw [hnext, List.length_append] at hml
      have hrk : ∀ x ∈ rowOf seed S L i, x.key.size ≤ 1000000000 := fun x hx => HKS.out x (mem_row.1 hx).1
      have HROW := Lib.hid hrow
      have HNEXT := Lib.hid hnext
      have HRK := Lib.hid hrk
      have J1 : Hid (GrowJ w wr b seed n S (((allRows seed S L).take i).flatten ++ (rowOf seed S L i).take 0)) := Lib.hid (by rw [List.take_zero, List.append_nil]; exact ⟨O1, sema1, g1, vs1, hT1, hG1⟩)
      clear hrow hnext hu hsl hold hT1 hG1 hrk
      generalize ((allRows seed S L).take i).flatten = done at *
      generalize rowOf seed S L i = r at *
      obtain ⟨m, hm⟩ : ∃ m, m = r.length := ⟨_, rfl⟩
      rw [← hm] at hca hml ug
      have HM := Lib.hid hm
      clear hm
      go_wp2_with fail
      go_loopg [28] m (fun gk' k wr' => ∃ j : Nat, j + gk' = m ∧ k = .int .i64 (j : Int) ∧ GrowJ w wr' b seed n S (done ++ r.take j))
      case atStart => exact ⟨0, by omega, rfl, J1.out⟩
      case round =>
        obtain ⟨j, hj', rfl, hj⟩ := hrel
        by_cases hjm : j < m
        · obtain ⟨O2, sema2, g2, vs2, hT2, hG2⟩ := hj
          obtain ⟨gx, offx, rfl, x0, x1, x2, x3⟩ := HROW.out _ hG2.1 j (HM.out ▸ hjm)
          have hjr : j < r.length := HM.out ▸ hjm
          have hxk : (r[j]'hjr).key.size ≤ 1000000000 := HRK.out _ (List.getElem_mem _)
          have htk : r.take (j + 1) = r.take j ++ [r[j]'hjr] := List.take_succ_eq_append_getElem _
          have htl : (done ++ r.take j).length ≤ L.length := by rw [List.length_append, List.length_take]; omega
          have HTK := Lib.hid htk
          clear htk
          generalize (r[j]'hjr) = x at *
          go_wp2_with fail
          have hkX : Kept (fun _ => False) wr (wr.alloc (.cells #[.string x.key, .string x.val, .int .i64 x.ver, .int .i64 x.til] 44)) := (Kept.refl _ wr).alloc _
          have hbX := heap_alloc_new wr (.cells #[.string x.key, .string x.val, .int .i64 x.ver, .int .i64 x.til] 44)
          have hOpl : ¬ O2 wr.heap.size := fun hh => by have := hT2.lt _ hh; omega
          refine (place_any b O2 seed n (2 * S) (done ++ r.take j) x.key _ (.inl ⟨_, _, _, hT2.kept0 hkX⟩) (by omega) (by omega) hxk).mono ?_
          rintro e w1 ⟨rr, O3, sema3, g3, vs3, rfl, hf, hT3, hG3⟩
          have hb3 := (hG3.1.block wr.heap.size (by simp) hOpl).trans hbX
          have hG4 : Grew (fun k => k = b) w O3 w1 := (hG2.kept hkX).trans hG3
          have hslt := slotOf_lt (seed := seed) x.key hT3.pos
          obtain ⟨u, hu⟩ : ∃ u, vs3[slotOf seed (2 * S) x.key]? = some u := ⟨_, List.getElem?_eq_getElem (by rw [hT3.rows.len]; exact hslt)⟩
          have hsl := hT3.rows.row _ _ hu
          have hlen := row_length_le (done ++ r.take j) seed (2 * S) (slotOf seed (2 * S) x.key)
          obtain ⟨v4, v5, v6⟩ := hT3.sees hu (Kept.refl (fun _ => False) w1) id id
          have c0 := cell_at hb3 0
          have c1 := cell_at hb3 1
          have c2 := cell_at hb3 2
          have c3 := cell_at hb3 3
          simp at c0 c1 c2 c3
          have l1 := lt_of_block hT3.blk
          have l2 := lt_of_block hT3.rows.blk
          have l3 := lt_of_block hb3
          have hmine := fun k => hT3.rows.mine _ _ k hu
          have hvb := hT3.vb _ _ hu
          have done1 : ∀ (w2 : World) (g4 off cap q : Nat) (W' : World), Kept (fun _ => False) w1 W' → Sl w2 44 4 ((rowOf seed (2 * S) (done ++ r.take j) (slotOf seed (2 * S) x.key)).length + 1) (.slice (some ⟨g4, off, none⟩) ((rowOf seed (2 * S) (done ++ r.take j) (slotOf seed (2 * S) x.key)).length + 1) cap) (flat (rowOf seed (2 * S) (done ++ r.take j) (slotOf seed (2 * S) x.key)) ++ x.cells) →
              Kept (fun k => u.ownBlock = some k) W' w2 → (u.ownBlock = some g4 ∨ W'.heap.size ≤ g4) → GrowJ w (w2.setCell ⟨g3, slotOf seed (2 * S) x.key, none⟩ (.slice (some ⟨g4, off, none⟩) ((rowOf seed (2 * S) (done ++ r.take j) (slotOf seed (2 * S) x.key)).length + 1) cap)) b seed n S (done ++ r.take (j + 1)) := by
            intro w2 g4 off cap q W' hkW hs2 hk2 hg2
            obtain ⟨p1, p2⟩ := (hT3.kept0 hkW).push x hu hs2 rfl hk2 hg2
            rw [HTK.out, ← List.append_assoc]
            exact ⟨_, _, _, _, p1, (hG4.kept hkW).trans p2⟩
          have sees1 : ∀ (w2 W' : World), Kept (fun _ => False) w1 W' → Kept (fun k => u.ownBlock = some k) W' w2 → w2.cell? ⟨b, 4, none⟩ = some (.slice (some ⟨g3, 0, none⟩) (2 * S) (2 * S)) ∧ w2.cell? ⟨g3, slotOf seed (2 * S) x.key, none⟩ = some u ∧ w2.frozen? ⟨g3, slotOf seed (2 * S) x.key, none⟩ = false :=
            fun w2 W' hkW hk2 => (hT3.kept0 hkW).sees hu hk2 hvb (fun e => (hmine g3 e).2 rfl)
          have DONE := Lib.hid done1
          have SEES := Lib.hid sees1
          clear done1 sees1 hf hT3 hG3 hG4 hT2 hG2 hu hbX hb3 hmine hkX hvb
          generalize rowOf seed (2 * S) (done ++ r.take j) (slotOf seed (2 * S) x.key) = row at *
          generalize slotOf seed (2 * S) x.key = s at *
          go_wp2_with fail
          have hs2 : (s : Int) < 2 * S := by omega
          have hs63 : (s : Int) ≤ 9223372036854775807 := by omega
          have hrl : row.length ≤ 400000 := by omega
          go_region_law (refine step_append_sl _ rfl (.tmp 50) (.tmp 52) 45 rfl 44 i0 _ 4 48 Tryz.underlying45 hi hz0 hz1 hz2 rfl (by decide) u row.length (flat row) rfl (hsl.drew.alloc _) ⟨w1.heap.size, 0, none⟩ 1 1 [.string x.key, .string x.val, .int .i64 x.ver, .int .i64 x.til] rfl rfl (cells_new _ _ _ _) (by simp [Value.oneCell']) (by omega) (by unfold maxLen; omega) (by omega) ?_; intro g4 off cap w2 h1 h2 h3; have hkW : Kept (fun _ => False) w1 (w1.drew.alloc (.cells #[.string x.key, .string x.val, .int .i64 x.ver, .int .i64 x.til] 44)) := ((Kept.refl _ w1).drew).alloc _; obtain ⟨q4, q5, q6⟩ := SEES.out w2 _ hkW h2; have FINQ := Lib.hid (DONE.out w2 g4 off cap 0 _ hkW h1 h2 h3); clear h1 h2 h3)
          all_goals
            go_wp2_with fail
            go_roundg (gk - 1)
            case measure => omega
            case rel => exact ⟨j + 1, by omega, by go_num, FINQ.out⟩
        · obtain rfl : j = m := by omega
          rw [List.take_of_length_le (by rw [HM.out]; exact Nat.le_refl _), ← HNEXT.out] at hj
          have HJ := Lib.hid hj
          clear hj
          go_wp2_with fail
          go_roundg (S - i - 1)
          case measure => omega
          case rel => exact ⟨i + 1, by omega, by go_num, HJ.out⟩
    · obtain rfl : i = S := by omega
      rw [List.take_of_length_le (by rw [allRows_length]; exact Nat.le_refl _)] at hj
      have HJ := Lib.hid (FIN.out _ hj)
      clear hj
      go_wp2_with fail
      go_end0
      exact HJ.out
end Go.Proofs.YtekcjoogggoijaaGreatDoor
