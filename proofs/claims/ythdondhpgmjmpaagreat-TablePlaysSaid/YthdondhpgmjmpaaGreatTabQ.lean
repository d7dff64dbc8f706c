/-
  Plain laws on a table in memory: an item set in place, an item behind a row, the count; the rows together are the items.
-/
import Derived.Test.YthdondhpgmjmpaaGreatTabC
namespace Go.Proofs.YthdondhpgmjmpaaGreat
set_option linter.unusedVariables false
set_option linter.unusedSimpArgs false
set_option linter.unnecessarySimpa false
open Go.RowKit
set_option maxRecDepth 100000

theorem item_info : (Tryz.prog.info? 39).map (fun i => (i.zero, i.size, i.bytes)) = some (some (.agg #[.string ByteArray.empty, .string ByteArray.empty, .int .i64 0, .int .i64 0]), 4, 48) := by kernel_rfl

theorem rows_perm (f : It → Nat) (L : List It) : ∀ n : Nat, ((List.range n).map (fun i => L.filter (fun x => f x == i))).flatten.Perm (L.filter (fun x => decide (f x < n)))
  | 0 => by simp
  | n + 1 => by
    rw [List.range_succ, List.map_append, List.flatten_append]
    have ih := rows_perm f L n
    have h := List.filter_append_perm (fun x => decide (f x < n)) (L.filter (fun x => decide (f x < n + 1)))
    rw [List.filter_filter, List.filter_filter] at h
    have e1 : L.filter (fun x => decide (f x < n) && decide (f x < n + 1)) = L.filter (fun x => decide (f x < n)) := by
      apply List.filter_congr
      intro x _
      rw [Bool.eq_iff_iff]
      simp
      omega
    have e2 : L.filter (fun x => !decide (f x < n) && decide (f x < n + 1)) = L.filter (fun x => f x == n) := by
      apply List.filter_congr
      intro x _
      rw [Bool.eq_iff_iff]
      simp
      omega
    rw [e1, e2] at h
    refine List.Perm.trans ?_ h
    simp only [List.map_cons, List.map_nil, List.flatten_cons, List.flatten_nil, List.append_nil]
    exact ih.append_right _
/-- All rows, one behind the other. -/
def allRows (seed S : Nat) (L : List It) : List (List It) := (List.range S).map (rowOf seed S L)
theorem allRows_perm {seed S : Nat} (L : List It) (h : 0 < S) : (allRows seed S L).flatten.Perm L := by
  refine (rows_perm (fun x => slotOf seed S x.key) L S).trans ?_
  rw [List.filter_eq_self.2 (fun x _ => decide_eq_true (slotOf_lt x.key h))]
theorem allRows_at {seed S : Nat} {L : List It} {i : Nat} (h : i < S) : (allRows seed S L)[i]? = some (rowOf seed S L i) := by
  unfold allRows
  rw [List.getElem?_map, List.getElem?_range h]
  rfl
theorem allRows_length (seed S : Nat) (L : List It) : (allRows seed S L).length = S := by simp [allRows]
theorem flatten_take_succ {α : Type} {l : List (List α)} {i : Nat} {r : List α} (h : l[i]? = some r) : (l.take (i + 1)).flatten = (l.take i).flatten ++ r := by
  obtain ⟨hi, e⟩ := List.getElem?_eq_some_iff.1 h
  rw [List.take_succ_eq_append_getElem hi, List.flatten_append, e]
  simp
theorem flatten_take_le {α : Type} (l : List (List α)) (i : Nat) : (l.take i).flatten.length ≤ l.flatten.length := by
  have h : l.flatten = (l.take i).flatten ++ (l.drop i).flatten := by rw [← List.flatten_append, List.take_append_drop]
  rw [h, List.length_append]
  omega

theorem setCells_drop {c : List Value} {off n i : Nat} {B : List Value} (hB : B.length = 4) (hi : i < n) (hl : off + n * 4 ≤ c.length) :
    ((c.take (off + i * 4) ++ B ++ c.drop (off + i * 4 + 4)).drop off).take (n * 4) = ((c.drop off).take (n * 4)).take (i * 4) ++ B ++ ((c.drop off).take (n * 4)).drop (i * 4 + 4) := by
  have hA : (c.take (off + i * 4)).length = off + i * 4 := by rw [List.length_take]; omega
  rw [List.append_assoc, List.drop_append_of_le_length (by omega), List.drop_take, show off + i * 4 - off = i * 4 by omega]
  have hA2 : ((c.drop off).take (i * 4)).length = i * 4 := by rw [List.length_take, List.length_drop]; omega
  rw [List.take_append, hA2, List.take_of_length_le (l := (c.drop off).take (i * 4)) (by omega), List.take_append, hB, List.take_of_length_le (l := B) (by omega)]
  rw [List.take_take, show min (i * 4) (n * 4) = i * 4 by omega, List.drop_take, List.drop_drop, List.append_assoc]
  congr 3

/-- An element set in a slice's own row. -/
theorem Sl.set {w : World} {E : TypeId} {n : Nat} {g off cap : Nat} {l : List It} (h : Sl w E 4 n (.slice (some ⟨g, off, none⟩) n cap) (flat l)) (i : Nat) (hi : i < n) (x : It) :
    Sl (w.setCells g (off + i * 4) x.cells) E 4 n (.slice (some ⟨g, off, none⟩) n cap) (flat (l.set i x)) := by
  have hl : l.length = n := by have := h.1; rw [flat_length] at this; omega
  rcases h.2 with ⟨hv, _⟩ | ⟨g', off', cap', cur, hv, hg, hn, hm, hs, ht⟩
  · cases hv
  · obtain ⟨rfl, rfl, rfl⟩ : g' = g ∧ off' = off ∧ cap' = cap := by
      injection hv with h1 h2 h3
      injection h1 with h1
      injection h1 with h4 h5
      exact ⟨h4.symm, h5.symm, h3.symm⟩
    have hfit : off' + n * 4 ≤ cur.toList.length := by simp; have : n * 4 ≤ cap' * 4 := Nat.mul_le_mul_right _ hn; omega
    obtain ⟨c', e1, e2, e3⟩ := setCells_block x.cells (off' + i * 4) w cur hg (by simp [It.cells]; simp at hfit; omega)
    refine ⟨by rw [flat_length, List.length_set, hl], .inr ⟨g', off', cap', c', rfl, e1, hn, hm, by omega, ?_⟩⟩
    rw [e3, flat_set l x i (by omega), ← ht]
    exact setCells_drop rfl hi hfit

section
variable {w : World} {b : Nat} {O : Nat → Prop} {seed : Nat} {n : Int} {S : Nat} {sema : Value} {g : Nat} {vs : List Value} {L : List It}

/-- The count. -/
theorem TabAt.count (h : TabAt w b O seed n S sema g vs L) (m : Int) : TabAt (w.setCell ⟨b, 5, none⟩ (.int .i64 m)) b O seed m S sema g vs L := by
  have hk : Kept (fun k => k = b) w (w.setCell ⟨b, 5, none⟩ (.int .i64 m)) := kept_at _ (Kept.refl _ _)
  refine ⟨by rw [setCell_block h.blk]; rfl, ⟨(hk.block g (lt_of_block h.rows.blk) h.gb).trans h.rows.blk, h.rows.len, h.rows.own, fun i u hu => (h.rows.row i u hu).kept hk (fun k hv e => h.vb i u hu (by rw [hv, e])), h.rows.mine, h.rows.apart⟩, h.ownb, h.gb, h.vb, fun k hk => ?_, h.seed_lt, h.pos⟩
  have := h.lt k hk
  simpa [World.setCell] using this

/-- An item in place of the one with its key. -/
theorem TabAt.set (h : TabAt w b O seed n S sema g vs L) (hn : (keys L).Nodup) (x : It) {i m ca g2 off : Nat} {y : It} (hy : (rowOf seed S L (slotOf seed S x.key))[i]? = some y) (hk : y.key = x.key)
    (hu : vs[slotOf seed S x.key]? = some (.slice (some ⟨g2, off, none⟩) m ca)) :
    TabAt (w.setCells g2 (off + i * 4) x.cells) b O seed n S sema g vs (repL L x) ∧ Kept O w (w.setCells g2 (off + i * 4) x.cells) := by
  obtain ⟨f1, f2, f3, f4⟩ := setCells_facts g2 x.cells (off + i * 4) w
  have hO := h.rows.mine _ _ g2 hu rfl
  have hk2 : Kept (fun k => k = g2) w (w.setCells g2 (off + i * 4) x.cells) := ⟨f2, f3, f4, by omega, fun k _ hne => setCells_other _ _ _ _ _ hne⟩
  have hsl := h.rows.row _ _ hu
  have hm : m = (rowOf seed S L (slotOf seed S x.key)).length := by
    obtain ⟨h1, _, _⟩ := (Rd.of_sl hsl).at
    exact h1
  have hrow := rep_set x _ i y (row_nodup seed S (slotOf seed S x.key) hn) hy hk
  have him : i < m := by
    obtain ⟨hi, _⟩ := List.getElem?_eq_some_iff.1 hy
    omega
  refine ⟨⟨(hk2.block b (lt_of_block h.blk) (fun e => h.vb _ _ hu (by rw [e]; rfl))).trans h.blk,
    ⟨(hk2.block g (lt_of_block h.rows.blk) (fun e => hO.2 e.symm)).trans h.rows.blk, h.rows.len, h.rows.own, ?_, h.rows.mine, h.rows.apart⟩, h.ownb, h.gb, h.vb, fun k hk => by rw [f1]; exact h.lt k hk, h.seed_lt, h.pos⟩, hk2.mono (fun k _ e => by rw [e]; exact hO.1)⟩
  intro j u hju
  by_cases hj : j = slotOf seed S x.key
  · subst hj
    rw [hu] at hju
    injection hju with hju
    subst hju
    rw [row_rep, hrow, List.length_set, ← hm]
    rw [← hm] at hsl
    exact hsl.set i him x
  · rw [row_rep_other L x seed S j hj]
    exact (h.rows.row j u hju).kept hk2 (fun k hv e => hj (h.rows.apart _ _ _ _ k hju hu hv (by rw [e]; rfl)))

/-- An item behind its slot's row. -/
theorem TabAt.push (h : TabAt w b O seed n S sema g vs L) (x : It) {u : Value} (hu : vs[slotOf seed S x.key]? = some u) {w2 : World} {g2 off m cap : Nat}
    (hs : Sl w2 39 4 (m + 1) (.slice (some ⟨g2, off, none⟩) (m + 1) cap) (flat (rowOf seed S L (slotOf seed S x.key)) ++ x.cells)) (hm : m = (rowOf seed S L (slotOf seed S x.key)).length)
    (hk : Kept (fun k => u.ownBlock = some k) w w2) (hg : u.ownBlock = some g2 ∨ w.heap.size ≤ g2) :
    TabAt (w2.setCell ⟨g, slotOf seed S x.key, none⟩ (.slice (some ⟨g2, off, none⟩) (m + 1) cap)) b (fun k => O k ∨ k = g2) seed n S sema g (vs.set (slotOf seed S x.key) (.slice (some ⟨g2, off, none⟩) (m + 1) cap)) (L ++ [x]) ∧
      Grew O w (fun k => O k ∨ k = g2) (w2.setCell ⟨g, slotOf seed S x.key, none⟩ (.slice (some ⟨g2, off, none⟩) (m + 1) cap)) := by
  have hlen := h.rows.len
  have hslt := slotOf_lt (seed := seed) x.key h.pos
  have hug : u.ownBlock ≠ some g := fun e => (h.rows.mine _ _ g hu e).2 rfl
  have hub : u.ownBlock ≠ some b := h.vb _ _ hu
  have hgl := lt_of_block h.rows.blk
  have hbl := lt_of_block h.blk
  have hg2g : g2 ≠ g := by
    rcases hg with e | e
    · exact fun e' => hug (by rw [e, e'])
    · omega
  have hg2b : g2 ≠ b := by
    rcases hg with e | e
    · exact fun e' => hub (by rw [e, e'])
    · omega
  have hb2 := (hk.block b hbl hub).trans h.blk
  have hgg := (hk.block g hgl hug).trans h.rows.blk
  have hg2s := hs.lt (k := g2) rfl
  have hsz := hk.size
  have hO2 : O g2 ∨ w.heap.size ≤ g2 := hg.imp (fun e => (h.rows.mine _ _ g2 hu e).1) id
  have hnew : ∀ (j : Nat) (u' : Value), j ≠ slotOf seed S x.key → vs[j]? = some u' → u'.ownBlock ≠ some g2 := by
    intro j u' hj hu' e
    rcases hg with e' | e'
    · exact hj (h.rows.apart _ _ _ _ g2 hu' hu e e')
    · have := h.lt _ (h.rows.mine _ _ g2 hu' e).1
      omega
  have hat : ∀ (j : Nat) (u' : Value), (vs.set (slotOf seed S x.key) (.slice (some ⟨g2, off, none⟩) (m + 1) cap))[j]? = some u' →
      (j = slotOf seed S x.key ∧ u' = .slice (some ⟨g2, off, none⟩) (m + 1) cap) ∨ (j ≠ slotOf seed S x.key ∧ vs[j]? = some u') := by
    intro j u' hj
    rw [List.getElem?_set] at hj
    split at hj
    · rename_i e
      split at hj
      · exact .inl ⟨e.symm, (Option.some.inj hj).symm⟩
      · cases hj
    · rename_i e
      exact .inr ⟨fun e' => e e'.symm, hj⟩
  refine ⟨⟨(Below.heap_setCell _ _ _ _ h.gb.symm).trans hb2, ⟨?_, by rw [List.length_set]; exact hlen, .inl h.rows.own, ?_, ?_, ?_⟩, .inl h.ownb, h.gb, ?_, ?_, h.seed_lt, h.pos⟩, ?_, ?_⟩
  · rw [setCell_block hgg]
    congr 1
    congr 1
    apply Array.ext'
    simp
  · intro j u' hj
    rcases hat j u' hj with ⟨rfl, rfl⟩ | ⟨hne, hj'⟩
    · rw [row_snoc_same, List.length_append, ← hm, flat_append]
      exact (show Sl w2 _ 4 (m + 1) _ (flat _ ++ flat [x]) by simpa [flat] using hs).setOther (by simpa [Value.ownBlock] using hg2g) _ _
    · rw [row_snoc_other L x seed S j hne]
      refine ((h.rows.row j u' hj').kept hk (fun k hv e => hne (h.rows.apart _ _ _ _ k hj' hu hv e))).setOther (fun e => (h.rows.mine _ _ g hj' e).2 rfl) _ _
  · intro j u' k hj hv
    rcases hat j u' hj with ⟨rfl, rfl⟩ | ⟨hne, hj'⟩
    · simp [Value.ownBlock] at hv
      subst hv
      exact ⟨.inr rfl, hg2g⟩
    · exact ⟨.inl (h.rows.mine _ _ k hj' hv).1, (h.rows.mine _ _ k hj' hv).2⟩
  · intro j j' u' u'' k hj hj' hv hv'
    rcases hat j u' hj with ⟨rfl, rfl⟩ | ⟨hne, hj1⟩
    · rcases hat j' u'' hj' with ⟨rfl, rfl⟩ | ⟨hne', hj2⟩
      · rfl
      · simp [Value.ownBlock] at hv
        subst hv
        exact absurd hv' (hnew _ _ hne' hj2)
    · rcases hat j' u'' hj' with ⟨rfl, rfl⟩ | ⟨hne', hj2⟩
      · simp [Value.ownBlock] at hv'
        subst hv'
        exact absurd hv (hnew _ _ hne hj1)
      · exact h.rows.apart _ _ _ _ k hj1 hj2 hv hv'
  · intro j u' hj
    rcases hat j u' hj with ⟨rfl, rfl⟩ | ⟨hne, hj'⟩
    · simpa [Value.ownBlock] using hg2b
    · exact h.vb _ _ hj'
  · intro k hk'
    rcases hk' with hk' | rfl
    · have := h.lt k hk'
      simp [World.setCell]
      omega
    · simpa [World.setCell] using hg2s
  · refine (hk.mono (fun k _ e => (h.rows.mine _ _ k hu e).1)).setCell (p := ⟨g, slotOf seed S x.key, none⟩) (fun _ => h.rows.own) _
  · intro k hk'
    rcases hk' with hk' | rfl
    · exact .inl hk'
    · exact hO2
end

theorem TabAt.sees {w w2 : World} {b : Nat} {O T : Nat → Prop} {seed : Nat} {n : Int} {S : Nat} {sema : Value} {g : Nat} {vs : List Value} {L : List It} (h : TabAt w b O seed n S sema g vs L) {s : Nat} {u : Value} (hu : vs[s]? = some u) (hk : Kept T w w2) (hb : ¬ T b) (hg : ¬ T g) :
    w2.cell? ⟨b, 4, none⟩ = some (.slice (some ⟨g, 0, none⟩) S S) ∧ w2.cell? ⟨g, s, none⟩ = some u ∧ w2.frozen? ⟨g, s, none⟩ = false := by
  have h1 := (hk.block b (lt_of_block h.blk) hb).trans h.blk
  have h2 := (hk.block g (lt_of_block h.rows.blk) hg).trans h.rows.blk
  exact ⟨by simpa using cell_at h1 4, by rw [cell_at h2]; simpa using hu, frozen_at h2 s⟩
end Go.Proofs.YthdondhpgmjmpaaGreat
