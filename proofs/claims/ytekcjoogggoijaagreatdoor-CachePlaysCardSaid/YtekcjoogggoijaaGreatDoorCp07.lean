/-
  Package table's Del.
-/
import Derived.Test.YtekcjoogggoijaaGreatDoorCp05
import Derived.BigRegion
import Derived.Lib.SliceRun
import Derived.Deep.DeepCutAuto
set_option linter.unusedVariables false
set_option linter.unusedSimpArgs false
set_option linter.unnecessarySimpa false
namespace Go.Proofs.YtekcjoogggoijaaGreatDoor
open Go.RowKit
set_option maxRecDepth 100000

section
variable {P : Program} {ops : Array Oper} {rest : List Oper} {o : Oper} {a : Act} {Q : Exit → Act → World → Prop} {K : Act → World → Prop}
/-- append where there is room, as one step of a region that draws. -/
theorem step_append_room (w : World) {E : Prop} (hg : o.guard = none) (s x : Operand) (t : TypeId) (hop : o.op = Op.call { callee := Callee.builtin Builtin.append, args := #[s, x], argTypes := #[t, t] })
    (e : TypeId) (i : TypeInfo) (h1 : P.underlying t = some (.slice e)) (h2 : P.info? e = some i) (h4 : i.size = 4)
    (g off n cap : Nat) (hs : a.eval s = .slice (some ⟨g, off, none⟩) n cap)
    (ad : Addr) (m c : Nat) (news : List Value) (hx : a.eval x = .slice (some ad) m c) (hn : news.length = m * 4) (hc : ∀ j u, news[j]? = some u → w.cell? (ad.add j) = some u) (h1c : ∀ u ∈ news, u.oneCell' = true)
    (hr : n + m ≤ cap) (hcell : ∀ j, j < news.length → (w.cell? ⟨g, off + n * 4 + j, none⟩).isSome = true) (hfr : ∀ j, j < news.length → w.frozen? ⟨g, off + n * 4 + j, none⟩ = false)
    (hK : K (a.put o.dst (.slice (some ⟨g, off, none⟩) (n + m) cap)) (w.setCells g (off + n * 4) news)) : if Region.wanted o (yielded ops a.tmps) = true then Oper.wp P o a w K Q else E := by
  have hw : Region.wanted o (yielded ops a.tmps) = true := by simp [Region.wanted, hg]
  rw [if_pos hw]
  subst_vars
  have hrun := run_append_room_cells (P := P) w t o.type e i h1 h2 g off n cap ad m c news (by rw [h4]; exact hn) hc h1c hr (by rw [h4]; exact hcell) (by rw [h4]; exact hfr)
  rw [h4] at hrun
  unfold Oper.wp
  simp [execOp, hop, resolve, invoke, builtin, hs, hx, hrun, Result.andThen]
  exact hK
end

/-- 'clear' of one item. -/
theorem run_clear_item {P : Program} (w : World) (t e ty : TypeId) (i : TypeInfo) (ht : P.underlying t = some (.slice e)) (hi : P.info? e = some i) (hz : i.zero = some (.agg #[.string ByteArray.empty, .string ByteArray.empty, .int .i64 0, .int .i64 0])) (b o c : Nat)
    (hc : ∀ j, j < 4 → (w.cell? ⟨b, o + j, none⟩).isSome = true) (hf : ∀ j, j < 4 → w.frozen? ⟨b, o + j, none⟩ = false) :
    (Builtin.clear_ #[t] ty #[.slice (some ⟨b, o, none⟩) 1 c]).run P w = .ok (.tuple #[]) (w.setCells b o It.none.cells) := by
  have hv : (zeroValue e).run P w = .ok (.agg #[.string ByteArray.empty, .string ByteArray.empty, .int .i64 0, .int .i64 0]) w := by simp [zeroValue, typeInfo, hi, hz]
  have hzc : (Builtin.zeroCells (Value.agg #[.string ByteArray.empty, .string ByteArray.empty, .int .i64 0, .int .i64 0]).cells 1).toList = It.none.cells := by
    simp [Builtin.zeroCells, It.cells, It.none, Value.cells]
    rfl
  have hst := run_storeCells_cells (P := P) b o It.none.cells 0 w (by simpa [It.cells] using hc) (by simpa [It.cells] using hf) (by intro v hv'; simp [It.cells, It.none] at hv'; rcases hv' with rfl | rfl | rfl | rfl <;> rfl)
  simp only [Nat.add_zero] at hst
  simp [Builtin.clear_, run_underlying ht, hv, hzc, hst]

theorem erase_drop {c : List Value} {off m i : Nat} {N Z : List Value} (hi : i < m) (hN : N.length = (m - (i + 1)) * 4) (hl : off + m * 4 ≤ c.length) :
    ((((c.take (off + i * 4) ++ N ++ c.drop (off + i * 4 + N.length)).take (off + (m - 1) * 4)) ++ Z ++ (c.take (off + i * 4) ++ N ++ c.drop (off + i * 4 + N.length)).drop (off + (m - 1) * 4 + 4)).drop off).take ((m - 1) * 4) =
      ((c.drop off).take (m * 4)).take (i * 4) ++ N := by
  have hA : (c.take (off + i * 4)).length = off + i * 4 := by rw [List.length_take]; omega
  have hAN : (c.take (off + i * 4) ++ N).length = off + (m - 1) * 4 := by rw [List.length_append, hA, hN]; omega
  rw [List.take_left' hAN, List.append_assoc, List.drop_append_of_le_length (by omega)]
  have hd : ((c.take (off + i * 4) ++ N).drop off).length = (m - 1) * 4 := by rw [List.length_drop, hAN]; omega
  rw [List.take_left' hd, List.drop_append_of_le_length (by omega), List.drop_take, show off + i * 4 - off = i * 4 by omega, List.take_take, show min (i * 4) (m * 4) = i * 4 by omega]

/-- A slice without its i-th item: what slices.Delete leaves. -/
theorem Sl.erase {w : World} {E : TypeId} {m g off cap : Nat} {l : List It} (h : Sl w E 4 m (.slice (some ⟨g, off, none⟩) m cap) (flat l)) (i : Nat) (hi : i < m) :
    Sl ((w.setCells g (off + i * 4) (flat (l.drop (i + 1)))).setCells g (off + (m - 1) * 4) It.none.cells) E 4 (m - 1) (.slice (some ⟨g, off, none⟩) (m - 1) cap) (flat (l.eraseIdx i)) := by
  have hl : l.length = m := by have := h.1; rw [flat_length] at this; omega
  have hN : (flat (l.drop (i + 1))).length = (m - (i + 1)) * 4 := by rw [flat_length, List.length_drop, hl]
  rcases h.2 with ⟨hv, _⟩ | ⟨g', off', cap', cur, hv, hg, hn, hm, hs, ht⟩
  · cases hv
  · obtain ⟨rfl, rfl, rfl⟩ : g' = g ∧ off' = off ∧ cap' = cap := by
      injection hv with h1 h2 h3
      injection h1 with h1
      injection h1 with h4 h5
      exact ⟨h4.symm, h5.symm, h3.symm⟩
    have hfit : off' + m * 4 ≤ cur.size := by have : m * 4 ≤ cap' * 4 := Nat.mul_le_mul_right _ hn; omega
    obtain ⟨c1, a1, a2, a3⟩ := setCells_block (flat (l.drop (i + 1))) (off' + i * 4) w cur hg (by rw [hN]; omega)
    obtain ⟨c2, b1, b2, b3⟩ := setCells_block It.none.cells (off' + (m - 1) * 4) _ c1 a1 (by simp [It.cells]; omega)
    refine ⟨by rw [flat_length, List.length_eraseIdx, hl, if_pos hi], .inr ⟨g', off', cap', c2, rfl, b1, by omega, hm, by omega, ?_⟩⟩
    rw [b3, a3, List.eraseIdx_eq_take_drop_succ, flat_append, ← flat_take, ← ht]
    exact erase_drop hi hN (by simpa using hfit)

def Deleted (w : World) (g2 off m ca : Nat) (l : List It) (i : Nat) (e : Ending) (w' : World) : Prop :=
  e = .returned (.slice (some ⟨g2, off, none⟩) (m - 1) ca) ∧ Sl w' 44 4 (m - 1) (.slice (some ⟨g2, off, none⟩) (m - 1) ca) (flat (l.eraseIdx i)) ∧ Kept (fun k => k = g2) w w'

set_option maxHeartbeats 4000000 in
theorem delete_any (g2 off m ca : Nat) (l : List It) (i : Nat) (w : World) (h : Sl w 44 4 m (.slice (some ⟨g2, off, none⟩) m ca) (flat l)) (hi : i < m) (hm : m ≤ 400000) :
    Calls Tryz.prog 118 #[.slice (some ⟨g2, off, none⟩) m ca, .int .i64 (i : Int), .int .i64 ((i : Int) + 1)] w (Deleted w g2 off m ca l i) := by
  obtain ⟨i0, hi0, hz0, hz1, hz2⟩ := info_parts item_info
  have hcap := h.le_cap
  have hl : l.length = m := by have := h.1; rw [flat_length] at this; omega
  have hN : (flat (l.drop (i + 1))).length = (m - (i + 1)) * 4 := by rw [flat_length, List.length_drop, hl]
  have her := h.drew.erase i hi
  have hcells := h.cell rfl
  obtain ⟨cur, hcur, hfit, hmax⟩ : ∃ cur, w.heap[g2]? = some (.cells cur 44 (0, 0)) ∧ off + ca * 4 ≤ cur.size ∧ ca ≤ maxLen := by
    rcases h.2 with ⟨hv, _⟩ | ⟨g', off', cap', cur, hv, hg, hn, hx, hs, ht⟩
    · cases hv
    · obtain ⟨rfl, rfl, rfl⟩ : g' = g2 ∧ off' = off ∧ cap' = ca := by
        injection hv with h1 h2 h3
        injection h1 with h1
        injection h1 with h4 h5
        exact ⟨h4.symm, h5.symm, h3.symm⟩
      exact ⟨cur, hg, hs, hx⟩
  have hb : ca * 4 = m * 4 + (ca - m) * 4 := by rw [← Nat.add_mul]; congr 1; omega
  have hsome : ∀ o, o < cur.size → (w.cell? ⟨g2, o, none⟩).isSome = true := fun o ho => by rw [cell_at hcur, Array.getElem?_eq_getElem ho]; rfl
  have hfr : ∀ o, w.frozen? ⟨g2, o, none⟩ = false := fun o => frozen_at hcur o
  obtain ⟨c1, a1, a2, _⟩ := setCells_block (flat (l.drop (i + 1))) (off + i * 4) w.drew cur hcur (by rw [hN]; omega)
  have hsome1 : ∀ o, o < cur.size → ((w.drew.setCells g2 (off + i * 4) (flat (l.drop (i + 1)))).cell? ⟨g2, o, none⟩).isSome = true := fun o ho => by rw [cell_at a1, Array.getElem?_eq_getElem (by omega)]; rfl
  have hfr1 : ∀ o, (w.drew.setCells g2 (off + i * 4) (flat (l.drop (i + 1)))).frozen? ⟨g2, o, none⟩ = false := fun o => frozen_at a1 o
  obtain ⟨f1, f2, f3, f4⟩ := setCells_facts g2 (flat (l.drop (i + 1))) (off + i * 4) w.drew
  obtain ⟨e1, e2, e3, e4⟩ := setCells_facts g2 It.none.cells (off + (m - 1) * 4) (w.drew.setCells g2 (off + i * 4) (flat (l.drop (i + 1))))
  have hk1 : Kept (fun k => k = g2) w (w.drew.setCells g2 (off + i * 4) (flat (l.drop (i + 1)))) := ⟨f2, f3, f4, by have : w.drew.heap.size = w.heap.size := rfl; omega, fun k _ hne => setCells_other _ _ _ _ _ hne⟩
  have hk2 : Kept (fun k => k = g2) (w.drew.setCells g2 (off + i * 4) (flat (l.drop (i + 1)))) ((w.drew.setCells g2 (off + i * 4) (flat (l.drop (i + 1)))).setCells g2 (off + (m - 1) * 4) It.none.cells) := ⟨e2, e3, e4, by omega, fun k _ hne => setCells_other _ _ _ _ _ hne⟩
  have hnews : ∀ (j : Nat) (u : Value), (flat (l.drop (i + 1)))[j]? = some u → w.cell? ⟨g2, off + (i + 1) * 4 + j, none⟩ = some u := by
    intro j u hu
    rw [← flat_drop, List.getElem?_drop] at hu
    have := hcells _ u hu
    rw [Addr.add_lit] at this
    rwa [Nat.add_assoc]
  have FIN : Hid (Deleted w g2 off m ca l i (.returned (.slice (some ⟨g2, off, none⟩) (m - 1) ca)) (((w.drew.setCells g2 (off + i * 4) (flat (l.drop (i + 1)))).setCells g2 (off + (m - 1) * 4) It.none.cells))) :=
    Lib.hid ⟨rfl, her, hk1.trans hk2 (fun _ _ h => h)⟩
  have hone := flat_one (l.drop (i + 1))
  clear her hcells hk1 hk2 f1 f2 f3 f4 e1 e2 e3 e4 h
  go_enter Tryz.func118, Tryz.ntmps118
  go_wp2_with fail
  have hic : i ≤ ca := by omega
  have hic1 : i + 1 ≤ m := hi
  have hic2 : (0 : Int) ≤ (i : Int) + 1 := by omega
  have hic3 : (i : Int) + 1 ≤ (m : Int) := by omega
  by_cases hca : ca = i + 1
  · subst hca
    obtain rfl : m = i + 1 := by omega
    have hnil : flat (l.drop (i + 1)) = [] := List.eq_nil_of_length_eq_zero (by rw [hN]; simp)
    have hle : (i : Int) ≤ (i : Int) + 1 := by omega
    have hcl := fun ty c => run_clear_item (P := Tryz.prog) w.drew 45 44 ty i0 Tryz.underlying45 hi0 hz0 g2 (off + i * 4) c (fun j hj => hsome (off + i * 4 + j) (by omega)) (fun j _ => hfr _)
    rw [hnil] at FIN
    simp only [Nat.add_sub_cancel, World.setCells] at FIN
    go_region_law (refine step_append_room _ rfl (.tmp 22) (.tmp 25) 45 rfl 44 i0 Tryz.underlying45 hi0 hz1 g2 off i (i + 1) rfl ⟨g2, off, none⟩ 0 0 [] rfl rfl (fun j u hu => by simp at hu) (by simp) (by omega) (fun j hj => by simp at hj) (fun j _ => hfr _) ?_; simp only [Nat.add_zero, World.setCells])
    all_goals
      go_wp2_with fail
      go_ret
      exact FIN.out
  · have hca' : ¬ ((ca : Int) - ((i : Int) + 1) = 0) := by omega
    go_region_law (refine step_append_room _ rfl (.tmp 22) (.tmp 25) 45 rfl 44 i0 Tryz.underlying45 hi0 hz1 g2 off i ca rfl ⟨g2, off + (i + 1) * 4, none⟩ (m - (i + 1)) (ca - (i + 1)) (flat (l.drop (i + 1))) rfl hN (fun j u hu => by rw [Addr.add_lit]; exact hnews j u hu) hone (by omega) (fun j hj => hsome _ (by omega)) (fun j _ => hfr _) ?_)
    all_goals
      rw [show i + (m - (i + 1)) = m - 1 from by omega]
      have hcl := fun ty c => run_clear_item (P := Tryz.prog) (w.drew.setCells g2 (off + i * 4) (flat (l.drop (i + 1)))) 45 44 ty i0 Tryz.underlying45 hi0 hz0 g2 (off + (m - 1) * 4) c (fun j hj => hsome1 _ (by omega)) (fun j _ => hfr1 _)
      have em : m - (m - 1) = 1 := by omega
      have em1 : m - 1 ≤ m := by omega
      have em2 : ((m - 1 : Nat) : Int) ≤ (m : Int) := by omega
      have em3 : m ≤ ca := hcap
      have em4 : ¬ (ca = m - 1) := by omega
      go_wp2_with fail
      go_ret
      exact FIN.out
end Go.Proofs.YtekcjoogggoijaaGreatDoor
namespace Go.Proofs.YtekcjoogggoijaaGreatDoor
open Go.RowKit
set_option maxRecDepth 100000

/-- A slot's row turned into another one; the rest of the items stay in theirs. -/
theorem TabAt.change {w : World} {b : Nat} {O : Nat → Prop} {seed : Nat} {n : Int} {S : Nat} {sema : Value} {g : Nat} {vs : List Value} {L : List It} (h : TabAt w b O seed n S sema g vs L) {s : Nat} (hslt : s < S) {u : Value} (hu : vs[s]? = some u) (L' : List It) (hL : ∀ j, j ≠ s → rowOf seed S L' j = rowOf seed S L j)
    {w2 : World} {g2 off m cap : Nat} (hs : Sl w2 44 4 m (.slice (some ⟨g2, off, none⟩) m cap) (flat (rowOf seed S L' s))) (hm : m = (rowOf seed S L' s).length)
    (hk : Kept (fun k => u.ownBlock = some k) w w2) (hg : u.ownBlock = some g2) :
    TabAt (w2.setCell ⟨g, s, none⟩ (.slice (some ⟨g2, off, none⟩) m cap)) b O seed n S sema g (vs.set s (.slice (some ⟨g2, off, none⟩) m cap)) L' ∧
      Kept O w (w2.setCell ⟨g, s, none⟩ (.slice (some ⟨g2, off, none⟩) m cap)) := by
  have hlen := h.rows.len
  have hug : u.ownBlock ≠ some g := fun e => (h.rows.mine _ _ g hu e).2 rfl
  have hub : u.ownBlock ≠ some b := h.vb _ _ hu
  have hgl := lt_of_block h.rows.blk
  have hbl := lt_of_block h.blk
  have hg2g : g2 ≠ g := fun e' => hug (by rw [hg, e'])
  have hg2b : g2 ≠ b := fun e' => hub (by rw [hg, e'])
  have hb2 := (hk.block b hbl hub).trans h.blk
  have hgg := (hk.block g hgl hug).trans h.rows.blk
  have hsz := hk.size
  have hO2 : O g2 := (h.rows.mine _ _ g2 hu hg).1
  have hat : ∀ (j : Nat) (u' : Value), (vs.set s (.slice (some ⟨g2, off, none⟩) m cap))[j]? = some u' →
      (j = s ∧ u' = .slice (some ⟨g2, off, none⟩) m cap) ∨ (j ≠ s ∧ vs[j]? = some u') := by
    intro j u' hj
    rw [List.getElem?_set] at hj
    split at hj
    · rename_i e
      split at hj
      · exact .inl ⟨e.symm, (Option.some.inj hj).symm⟩
      · cases hj
    · rename_i e
      exact .inr ⟨fun e' => e e'.symm, hj⟩
  refine ⟨⟨(Below.heap_setCell _ _ _ _ h.gb.symm).trans hb2, ⟨?_, by rw [List.length_set]; exact hlen, h.rows.own, ?_, ?_, ?_⟩, h.ownb, h.gb, ?_, ?_, h.seed_lt, h.pos⟩, ?_⟩
  · rw [setCell_block hgg]
    congr 1
    congr 1
    apply Array.ext'
    simp
  · intro j u' hj
    rcases hat j u' hj with ⟨rfl, rfl⟩ | ⟨hne, hj'⟩
    · rw [← hm]
      exact hs.setOther (by simpa [Value.ownBlock] using hg2g) _ _
    · rw [hL j hne]
      exact ((h.rows.row j u' hj').kept hk (fun k hv e => hne (h.rows.apart _ _ _ _ k hj' hu hv e))).setOther (fun e => (h.rows.mine _ _ g hj' e).2 rfl) _ _
  · intro j u' k hj hv
    rcases hat j u' hj with ⟨rfl, rfl⟩ | ⟨hne, hj'⟩
    · simp [Value.ownBlock] at hv
      subst hv
      exact ⟨hO2, hg2g⟩
    · exact h.rows.mine _ _ k hj' hv
  · intro j j' u' u'' k hj hj' hv hv'
    rcases hat j u' hj with ⟨rfl, rfl⟩ | ⟨hne, hj1⟩
    · rcases hat j' u'' hj' with ⟨rfl, rfl⟩ | ⟨hne', hj2⟩
      · rfl
      · simp [Value.ownBlock] at hv
        subst hv
        exact (h.rows.apart _ _ _ _ g2 hj2 hu hv' hg).symm
    · rcases hat j' u'' hj' with ⟨rfl, rfl⟩ | ⟨hne', hj2⟩
      · simp [Value.ownBlock] at hv'
        subst hv'
        exact h.rows.apart _ _ _ _ g2 hj1 hu hv hg
      · exact h.rows.apart _ _ _ _ k hj1 hj2 hv hv'
  · intro j u' hj
    rcases hat j u' hj with ⟨rfl, rfl⟩ | ⟨hne, hj'⟩
    · simpa [Value.ownBlock] using hg2b
    · exact h.vb _ _ hj'
  · intro k hk'
    have := h.lt k hk'
    simp [World.setCell]
    omega
  · exact (hk.mono (fun k _ e => (h.rows.mine _ _ k hu e).1)).setCell (p := ⟨g, s, none⟩) (fun _ => h.rows.own) _

/-- What Del does. -/
def Dels (w : World) (b : Nat) (O : Nat → Prop) (seed S : Nat) (L : List It) (key : ByteArray) (e : Ending) (w' : World) : Prop :=
  e = .returned (.bool (hasB L key)) ∧ ∃ O', Tab0 w' b O' seed ((delL L key).length : Nat) S (delL L key) ∧ Grew O w O' w'

theorem del_length {L : List It} (hn : (keys L).Nodup) {k : ByteArray} (h : hasB L k = true) : ((delL L k).length : Int) = (L.length : Int) + -1 := by
  obtain ⟨x, hx, hk⟩ := List.mem_map.1 (hasB_mem.1 h)
  obtain ⟨i, hi, he⟩ := List.getElem_of_mem hx
  have hd := del_erase k L i x hn (by rw [List.getElem?_eq_getElem hi, he]) hk
  rw [hd, List.length_eraseIdx, if_pos hi]
  omega
theorem del_absent {L : List It} {k : ByteArray} (h : hasB L k = false) : delL L k = L := by
  refine del_none fun y hy hk => ?_
  have : hasB L k = true := hasB_mem.2 (List.mem_map.2 ⟨y, hy, hk⟩)
  rw [this] at h
  cases h

set_option maxHeartbeats 4000000 in
theorem del_any (b : Nat) (O : Nat → Prop) (seed S : Nat) (L : List It) (key : ByteArray) (w : World) (h : Tab0 w b O seed (L.length : Nat) S L) (hS : S ≤ 1000000) (hL : L.length ≤ 400000) (hn : (keys L).Nodup) (hkey : key.size ≤ 1000000000) :
    Calls Tryz.prog 103 #[.pointer (some ⟨b, 0, none⟩), .string key] w (Dels w b O seed S L key) := by
  go_enter Tryz.func103, Tryz.ntmps103
  go_wp2_with fail
  refine (place_any b O seed _ S L key _ h hS (by omega) hkey).mono ?_
  rintro e w1 ⟨r, O1, sema, g, vs, rfl, hf, h1, hG⟩
  have hhas := found_has hf
  rcases hf with ⟨rfl, hno⟩ | ⟨i, y, rfl, hy, hk⟩
  · have fin : Dels w b O seed S L key (.returned (.bool false)) w1 := by
      have hh : hasB L key = false := by rw [hhas]; rfl
      exact ⟨by rw [hh], O1, by rw [del_absent hh]; exact .inl ⟨_, _, _, h1⟩, hG⟩
    have FIN := Lib.hid fin
    clear fin hno hhas h1
    go_wp2_with fail
    go_ret
    exact FIN.out
  · have hh : hasB L key = true := by rw [hhas]; exact decide_eq_true (by omega)
    have hslt := slotOf_lt (seed := seed) key h1.pos
    obtain ⟨u, hu⟩ : ∃ u, vs[slotOf seed S key]? = some u := ⟨_, List.getElem?_eq_getElem (by rw [h1.rows.len]; exact hslt)⟩
    have hsl := h1.rows.row _ _ hu
    have hlen := row_length_le L seed S (slotOf seed S key)
    obtain ⟨v4, v5, v6⟩ := h1.sees hu (Kept.refl (fun _ => False) w1) id id
    have l1 := lt_of_block h1.blk
    have l2 := lt_of_block h1.rows.blk
    obtain ⟨hil, hye⟩ := List.getElem?_eq_some_iff.1 hy
    obtain ⟨ao, ca, rfl, hca⟩ := (Rd.of_sl hsl).shape
    obtain ⟨g2, off, rfl, -⟩ := rd_it (Rd.of_sl hsl) rfl i hil
    have hrow : rowOf seed S (delL L key) (slotOf seed S key) = (rowOf seed S L (slotOf seed S key)).eraseIdx i := by
      rw [row_del]
      exact del_erase key _ i y (row_nodup seed S _ hn) hy hk
    have hm1 := hsl.le_cap
    have hug : (Value.slice (some ⟨g2, off, none⟩) (rowOf seed S L (slotOf seed S key)).length ca).ownBlock ≠ some g := fun e => (h1.rows.mine _ _ g hu e).2 rfl
    have hub := h1.vb _ _ hu
    have done1 : ∀ (w2 W' : World), Kept (fun _ => False) w1 W' → Sl w2 44 4 ((rowOf seed S L (slotOf seed S key)).length - 1) (.slice (some ⟨g2, off, none⟩) ((rowOf seed S L (slotOf seed S key)).length - 1) ca) (flat ((rowOf seed S L (slotOf seed S key)).eraseIdx i)) → Kept (fun k => k = g2) W' w2 →
        ∃ vs', TabAt (w2.setCell ⟨g, slotOf seed S key, none⟩ (.slice (some ⟨g2, off, none⟩) ((rowOf seed S L (slotOf seed S key)).length - 1) ca)) b O1 seed (L.length : Nat) S sema g vs' (delL L key) ∧ Grew O w O1 (w2.setCell ⟨g, slotOf seed S key, none⟩ (.slice (some ⟨g2, off, none⟩) ((rowOf seed S L (slotOf seed S key)).length - 1) ca)) := by
      intro w2 W' hkW hs2 hk2
      obtain ⟨p1, p2⟩ := (h1.kept0 hkW).change hslt hu (delL L key) (fun j hj => row_del_other L key seed S j hj) (by rw [hrow]; exact hs2) (by rw [hrow, List.length_eraseIdx, if_pos hil]) (hk2.mono (fun k _ e => by rw [e]; rfl)) rfl
      exact ⟨_, p1, (hG.kept hkW).1.trans p2 (fun k hk hO => (hG.2 k hO).elim id (fun e => by omega)), hG.2⟩
    have sees1 : ∀ (w2 W' : World), Kept (fun _ => False) w1 W' → Kept (fun k => k = g2) W' w2 → w2.cell? ⟨b, 4, none⟩ = some (.slice (some ⟨g, 0, none⟩) S S) ∧ w2.cell? ⟨g, slotOf seed S key, none⟩ = some (.slice (some ⟨g2, off, none⟩) (rowOf seed S L (slotOf seed S key)).length ca) ∧ w2.frozen? ⟨g, slotOf seed S key, none⟩ = false :=
      fun w2 W' hkW hk2 => (h1.kept0 hkW).sees hu hk2 (fun e => hub (by rw [e]; rfl)) (fun e => hug (by rw [e]; rfl))
    have dl := del_length hn hh
    have fin : ∀ w3 : World, Tab0 w3 b O1 seed ((L.length : Int) + -1) S (delL L key) → Grew O w O1 w3 → Dels w b O seed S L key (.returned (.bool true)) w3 :=
      fun w3 ht hg => ⟨by rw [hh], O1, by rw [dl]; exact ht, hg⟩
    have DONE := Lib.hid done1
    have SEES := Lib.hid sees1
    have FIN := Lib.hid fin
    have DEL := Lib.hid (fun (W' : World) (hkW : Kept (fun _ => False) w1 W') => delete_any g2 off _ ca _ i W' (hsl.kept hkW (fun _ _ h => h)) hil (by omega))
    have hlp : 0 < L.length := by omega
    clear done1 sees1 fin dl hrow hsl hug hub hye hy hk hhas hh h1 hG hu h hn
    generalize rowOf seed S L (slotOf seed S key) = row at *
    obtain ⟨m, hm⟩ : ∃ m, m = row.length := ⟨_, rfl⟩
    rw [← hm] at hil hlen v5 hm1 hca
    simp only [← hm] at DONE SEES DEL
    clear hm
    generalize slotOf seed S key = s at *
    have hs2 : (s : Int) < S := by omega
    have hs63 : (s : Int) ≤ 9223372036854775807 := by omega
    have hi63 : (i : Int) ≤ 400000 := by omega
    have hwi : IntKind.i64.wrap ((i : Int) + 1) = (i : Int) + 1 := by clear v4 v5 v6; simp [IntKind.wrap_i64]; omega
    have HWI := Lib.hid hwi
    clear hwi
    go_wp2_with fail
    go_cut [] (fun wr' => ∃ vs', TabAt wr' b O1 seed (L.length : Nat) S sema g vs' (delL L key) ∧ Grew O w O1 wr')
    case first =>
      go_region_with (go_at_call 118; rw [HWI.out]; refine (DEL.out _ ((Kept.refl _ w1).drew)).mono ?_; rintro e w2 ⟨rfl, hs3, hk3⟩; obtain ⟨q4, q5, q6⟩ := SEES.out w2 _ ((Kept.refl _ w1).drew) hk3; have FINQ := Lib.hid (DONE.out w2 _ ((Kept.refl _ w1).drew) hs3 hk3); clear hs3 hk3)
      all_goals
        go_wp2_with fail
        go_meet
        case rel => exact FINQ.out
    case rest =>
      obtain ⟨vs2, h2, hG2⟩ := hcut
      have k5 := cell_at h2.blk 5
      have f5 := frozen_at h2.blk 5
      have h5 := Lib.hid (h2.count ((L.length : Int) + -1))
      simp at k5
      have hw64 : wrap64 ((L.length : Int) + -1) = (L.length : Int) + -1 := by clear k5 f5 h5; unfold wrap64; omega
      have HW64 := Lib.hid hw64
      have hG5 : Grew O w O1 (wc.setCell ⟨b, 5, none⟩ (.int .i64 ((L.length : Int) + -1))) := ⟨hG2.1.trans (kept_at _ (Kept.refl _ wc)) (fun k hk e => (hG2.2 b h2.ownb).elim (fun h => e ▸ h) (fun h => by omega)), hG2.2⟩
      clear hw64 h2
      go_wp2_with fail
      refine (atomic_add b 5 (L.length : Nat) (-1) ((L.length : Int) + -1) _ (by go_simp) (by go_simp) HW64.out).mono ?_
      rintro e w4 ⟨rfl, rfl⟩
      have FF := Lib.hid (FIN.out _ (.inl ⟨_, _, _, h5.out⟩) hG5)
      go_wp2_with fail
      go_ret
      exact FF.out
end Go.Proofs.YtekcjoogggoijaaGreatDoor
