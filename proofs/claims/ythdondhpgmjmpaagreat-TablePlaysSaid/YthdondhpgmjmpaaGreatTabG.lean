/-
  slices.Delete of one item; Del.
-/
import Derived.Test.YthdondhpgmjmpaaGreatTabQ
import Derived.BigRegion
import Derived.Lib.SliceRun
namespace Go.Proofs.YthdondhpgmjmpaaGreat
set_option linter.unusedVariables false
set_option linter.unusedSimpArgs false
set_option linter.unnecessarySimpa false
open Go.RowKit
set_option maxRecDepth 100000

section
variable {P : Program} {ops : Array Oper} {rest : List Oper} {o : Oper} {a : Act} {Q : Exit → Act → World → Prop} {K : Act → World → Prop}
/-- append where there is room, as one step of a region that draws. -/
theorem step_append_room (w : World) {E : Prop} (hg : o.guard = none) (s x : Operand) (t : TypeId) (hop : o.op = Op.call { callee := Callee.builtin Builtin.append, args := #[s, x], argTypes := #[t, t] })
    (e : TypeId) (i : TypeInfo) (h1 : P.underlying t = some (.slice e)) (h2 : P.info? e = some i) (h4 : i.size = 4)
    (g off n cap : Nat) (hs : a.eval s = .slice (some ⟨g, off, none⟩) n cap)
    (ad : Addr) (m c : Nat) (news : List Value) (hx : a.eval x = .slice (some ad) m c) (hn : news.length = m * 4) (hc : ∀ j u, news[j]? = some u → w.cell? (ad.add j) = some u) (h1c : ∀ u ∈ news, u.oneCell' = true)
    (hr : n + m ≤ cap) (hcell : ∀ j, j < news.length → (w.cell? ⟨g, off + n * 4 + j, none⟩).isSome = true) (hfr : ∀ j, j < news.length → w.frozen? ⟨g, off + n * 4 + j, none⟩ = false)
    (hK : K (a.put o.dst (.slice (some ⟨g, off, none⟩) (n + m) cap)) (w.setCells g (off + n * 4) news)) : if Region.wanted o (yielded ops a.tmps) = true then Oper.wp P o a w K Q else E := by
  have hw : Region.wanted o (yielded ops a.tmps) = true := by simp [Region.wanted, hg]
  rw [if_pos hw]
  subst_vars
  have hrun := run_append_room_cells (P := P) w t o.type e i h1 h2 g off n cap ad m c news (by rw [h4]; exact hn) hc h1c hr (by rw [h4]; exact hcell) (by rw [h4]; exact hfr)
  rw [h4] at hrun
  unfold Oper.wp
  simp [execOp, hop, resolve, invoke, builtin, hs, hx, hrun, Result.andThen]
  exact hK
end

/-- 'clear' of one item. -/
theorem run_clear_item {P : Program} (w : World) (t e ty : TypeId) (i : TypeInfo) (ht : P.underlying t = some (.slice e)) (hi : P.info? e = some i) (hz : i.zero = some (.agg #[.string ByteArray.empty, .string ByteArray.empty, .int .i64 0, .int .i64 0])) (b o c : Nat)
    (hc : ∀ j, j < 4 → (w.cell? ⟨b, o + j, none⟩).isSome = true) (hf : ∀ j, j < 4 → w.frozen? ⟨b, o + j, none⟩ = false) :
    (Builtin.clear_ #[t] ty #[.slice (some ⟨b, o, none⟩) 1 c]).run P w = .ok (.tuple #[]) (w.setCells b o It.none.cells) := by
  have hv : (zeroValue e).run P w = .ok (.agg #[.string ByteArray.empty, .string ByteArray.empty, .int .i64 0, .int .i64 0]) w := by simp [zeroValue, typeInfo, hi, hz]
  have hzc : (Builtin.zeroCells (Value.agg #[.string ByteArray.empty, .string ByteArray.empty, .int .i64 0, .int .i64 0]).cells 1).toList = It.none.cells := by
    simp [Builtin.zeroCells, It.cells, It.none, Value.cells]
    rfl
  have hst := run_storeCells_cells (P := P) b o It.none.cells 0 w (by simpa [It.cells] using hc) (by simpa [It.cells] using hf) (by intro v hv'; simp [It.cells, It.none] at hv'; rcases hv' with rfl | rfl | rfl | rfl <;> rfl)
  simp only [Nat.add_zero] at hst
  simp [Builtin.clear_, run_underlying ht, hv, hzc, hst]

theorem erase_drop {c : List Value} {off m i : Nat} {N Z : List Value} (hi : i < m) (hN : N.length = (m - (i + 1)) * 4) (hl : off + m * 4 ≤ c.length) :
    ((((c.take (off + i * 4) ++ N ++ c.drop (off + i * 4 + N.length)).take (off + (m - 1) * 4)) ++ Z ++ (c.take (off + i * 4) ++ N ++ c.drop (off + i * 4 + N.length)).drop (off + (m - 1) * 4 + 4)).drop off).take ((m - 1) * 4) =
      ((c.drop off).take (m * 4)).take (i * 4) ++ N := by
  have hA : (c.take (off + i * 4)).length = off + i * 4 := by rw [List.length_take]; omega
  have hAN : (c.take (off + i * 4) ++ N).length = off + (m - 1) * 4 := by rw [List.length_append, hA, hN]; omega
  rw [List.take_left' hAN, List.append_assoc, List.drop_append_of_le_length (by omega)]
  have hd : ((c.take (off + i * 4) ++ N).drop off).length = (m - 1) * 4 := by rw [List.length_drop, hAN]; omega
  rw [List.take_left' hd, List.drop_append_of_le_length (by omega), List.drop_take, show off + i * 4 - off = i * 4 by omega, List.take_take, show min (i * 4) (m * 4) = i * 4 by omega]

/-- A slice without its i-th item: what slices.Delete leaves. -/
theorem Sl.erase {w : World} {E : TypeId} {m g off cap : Nat} {l : List It} (h : Sl w E 4 m (.slice (some ⟨g, off, none⟩) m cap) (flat l)) (i : Nat) (hi : i < m) :
    Sl ((w.setCells g (off + i * 4) (flat (l.drop (i + 1)))).setCells g (off + (m - 1) * 4) It.none.cells) E 4 (m - 1) (.slice (some ⟨g, off, none⟩) (m - 1) cap) (flat (l.eraseIdx i)) := by
  have hl : l.length = m := by have := h.1; rw [flat_length] at this; omega
  have hN : (flat (l.drop (i + 1))).length = (m - (i + 1)) * 4 := by rw [flat_length, List.length_drop, hl]
  rcases h.2 with ⟨hv, _⟩ | ⟨g', off', cap', cur, hv, hg, hn, hm, hs, ht⟩
  · cases hv
  · obtain ⟨rfl, rfl, rfl⟩ : g' = g ∧ off' = off ∧ cap' = cap := by
      injection hv with h1 h2 h3
      injection h1 with h1
      injection h1 with h4 h5
      exact ⟨h4.symm, h5.symm, h3.symm⟩
    have hfit : off' + m * 4 ≤ cur.size := by have : m * 4 ≤ cap' * 4 := Nat.mul_le_mul_right _ hn; omega
    obtain ⟨c1, a1, a2, a3⟩ := setCells_block (flat (l.drop (i + 1))) (off' + i * 4) w cur hg (by rw [hN]; omega)
    obtain ⟨c2, b1, b2, b3⟩ := setCells_block It.none.cells (off' + (m - 1) * 4) _ c1 a1 (by simp [It.cells]; omega)
    refine ⟨by rw [flat_length, List.length_eraseIdx, hl, if_pos hi], .inr ⟨g', off', cap', c2, rfl, b1, by omega, hm, by omega, ?_⟩⟩
    rw [b3, a3, List.eraseIdx_eq_take_drop_succ, flat_append, ← flat_take, ← ht]
    exact erase_drop hi hN (by simpa using hfit)

def Deleted (w : World) (g2 off m ca : Nat) (l : List It) (i : Nat) (e : Ending) (w' : World) : Prop :=
  e = .returned (.slice (some ⟨g2, off, none⟩) (m - 1) ca) ∧ Sl w' 39 4 (m - 1) (.slice (some ⟨g2, off, none⟩) (m - 1) ca) (flat (l.eraseIdx i)) ∧ Kept (fun k => k = g2) w w'

set_option maxHeartbeats 4000000 in
theorem delete_any (g2 off m ca : Nat) (l : List It) (i : Nat) (w : World) (h : Sl w 39 4 m (.slice (some ⟨g2, off, none⟩) m ca) (flat l)) (hi : i < m) (hm : m ≤ 400000) :
    Calls Tryz.prog 19 #[.slice (some ⟨g2, off, none⟩) m ca, .int .i64 (i : Int), .int .i64 ((i : Int) + 1)] w (Deleted w g2 off m ca l i) := by
  obtain ⟨i0, hi0, hz0, hz1, hz2⟩ := info_parts item_info
  have hcap := h.le_cap
  have hl : l.length = m := by have := h.1; rw [flat_length] at this; omega
  have hN : (flat (l.drop (i + 1))).length = (m - (i + 1)) * 4 := by rw [flat_length, List.length_drop, hl]
  have her := h.drew.erase i hi
  have hcells := h.cell rfl
  obtain ⟨cur, hcur, hfit, hmax⟩ : ∃ cur, w.heap[g2]? = some (.cells cur 39 (0, 0)) ∧ off + ca * 4 ≤ cur.size ∧ ca ≤ maxLen := by
    rcases h.2 with ⟨hv, _⟩ | ⟨g', off', cap', cur, hv, hg, hn, hx, hs, ht⟩
    · cases hv
    · obtain ⟨rfl, rfl, rfl⟩ : g' = g2 ∧ off' = off ∧ cap' = ca := by
        injection hv with h1 h2 h3
        injection h1 with h1
        injection h1 with h4 h5
        exact ⟨h4.symm, h5.symm, h3.symm⟩
      exact ⟨cur, hg, hs, hx⟩
  have hb : ca * 4 = m * 4 + (ca - m) * 4 := by rw [← Nat.add_mul]; congr 1; omega
  have hsome : ∀ o, o < cur.size → (w.cell? ⟨g2, o, none⟩).isSome = true := fun o ho => by rw [cell_at hcur, Array.getElem?_eq_getElem ho]; rfl
  have hfr : ∀ o, w.frozen? ⟨g2, o, none⟩ = false := fun o => frozen_at hcur o
  obtain ⟨c1, a1, a2, _⟩ := setCells_block (flat (l.drop (i + 1))) (off + i * 4) w.drew cur hcur (by rw [hN]; omega)
  have hsome1 : ∀ o, o < cur.size → ((w.drew.setCells g2 (off + i * 4) (flat (l.drop (i + 1)))).cell? ⟨g2, o, none⟩).isSome = true := fun o ho => by rw [cell_at a1, Array.getElem?_eq_getElem (by omega)]; rfl
  have hfr1 : ∀ o, (w.drew.setCells g2 (off + i * 4) (flat (l.drop (i + 1)))).frozen? ⟨g2, o, none⟩ = false := fun o => frozen_at a1 o
  obtain ⟨f1, f2, f3, f4⟩ := setCells_facts g2 (flat (l.drop (i + 1))) (off + i * 4) w.drew
  obtain ⟨e1, e2, e3, e4⟩ := setCells_facts g2 It.none.cells (off + (m - 1) * 4) (w.drew.setCells g2 (off + i * 4) (flat (l.drop (i + 1))))
  have hk1 : Kept (fun k => k = g2) w (w.drew.setCells g2 (off + i * 4) (flat (l.drop (i + 1)))) := ⟨f2, f3, f4, by have : w.drew.heap.size = w.heap.size := rfl; omega, fun k _ hne => setCells_other _ _ _ _ _ hne⟩
  have hk2 : Kept (fun k => k = g2) (w.drew.setCells g2 (off + i * 4) (flat (l.drop (i + 1)))) ((w.drew.setCells g2 (off + i * 4) (flat (l.drop (i + 1)))).setCells g2 (off + (m - 1) * 4) It.none.cells) := ⟨e2, e3, e4, by omega, fun k _ hne => setCells_other _ _ _ _ _ hne⟩
  have hnews : ∀ (j : Nat) (u : Value), (flat (l.drop (i + 1)))[j]? = some u → w.cell? ⟨g2, off + (i + 1) * 4 + j, none⟩ = some u := by
    intro j u hu
    rw [← flat_drop, List.getElem?_drop] at hu
    have := hcells _ u hu
    rw [Addr.add_lit] at this
    rwa [Nat.add_assoc]
  have FIN : Hid (Deleted w g2 off m ca l i (.returned (.slice (some ⟨g2, off, none⟩) (m - 1) ca)) (((w.drew.setCells g2 (off + i * 4) (flat (l.drop (i + 1)))).setCells g2 (off + (m - 1) * 4) It.none.cells))) :=
    Lib.hid ⟨rfl, her, hk1.trans hk2 (fun _ _ h => h)⟩
  have hone := flat_one (l.drop (i + 1))
  clear her hcells hk1 hk2 f1 f2 f3 f4 e1 e2 e3 e4 h
  go_enter Tryz.func19, Tryz.ntmps19
  go_wp2_with fail
  have hic : i ≤ ca := by omega
  have hic1 : i + 1 ≤ m := hi
  have hic2 : (0 : Int) ≤ (i : Int) + 1 := by omega
  have hic3 : (i : Int) + 1 ≤ (m : Int) := by omega
  by_cases hca : ca = i + 1
  · subst hca
    obtain rfl : m = i + 1 := by omega
    have hnil : flat (l.drop (i + 1)) = [] := List.eq_nil_of_length_eq_zero (by rw [hN]; simp)
    have hle : (i : Int) ≤ (i : Int) + 1 := by omega
    have hcl := fun ty c => run_clear_item (P := Tryz.prog) w.drew 70 39 ty i0 Tryz.underlying70 hi0 hz0 g2 (off + i * 4) c (fun j hj => hsome (off + i * 4 + j) (by omega)) (fun j _ => hfr _)
    rw [hnil] at FIN
    simp only [Nat.add_sub_cancel, World.setCells] at FIN
    go_region_law (refine step_append_room _ rfl (.tmp 22) (.tmp 25) 70 rfl 39 i0 Tryz.underlying70 hi0 hz1 g2 off i (i + 1) rfl ⟨g2, off, none⟩ 0 0 [] rfl rfl (fun j u hu => by simp at hu) (by simp) (by omega) (fun j hj => by simp at hj) (fun j _ => hfr _) ?_; simp only [Nat.add_zero, World.setCells])
    all_goals
      go_wp2_with fail
      go_ret
      exact FIN.out
  · have hca' : ¬ ((ca : Int) - ((i : Int) + 1) = 0) := by omega
    go_region_law (refine step_append_room _ rfl (.tmp 22) (.tmp 25) 70 rfl 39 i0 Tryz.underlying70 hi0 hz1 g2 off i ca rfl ⟨g2, off + (i + 1) * 4, none⟩ (m - (i + 1)) (ca - (i + 1)) (flat (l.drop (i + 1))) rfl hN (fun j u hu => by rw [Addr.add_lit]; exact hnews j u hu) hone (by omega) (fun j hj => hsome _ (by omega)) (fun j _ => hfr _) ?_)
    all_goals
      rw [show i + (m - (i + 1)) = m - 1 from by omega]
      have hcl := fun ty c => run_clear_item (P := Tryz.prog) (w.drew.setCells g2 (off + i * 4) (flat (l.drop (i + 1)))) 70 39 ty i0 Tryz.underlying70 hi0 hz0 g2 (off + (m - 1) * 4) c (fun j hj => hsome1 _ (by omega)) (fun j _ => hfr1 _)
      have em : m - (m - 1) = 1 := by omega
      have em1 : m - 1 ≤ m := by omega
      have em2 : ((m - 1 : Nat) : Int) ≤ (m : Int) := by omega
      have em3 : m ≤ ca := hcap
      have em4 : ¬ (ca = m - 1) := by omega
      go_wp2_with fail
      go_ret
      exact FIN.out
end Go.Proofs.YthdondhpgmjmpaaGreat
