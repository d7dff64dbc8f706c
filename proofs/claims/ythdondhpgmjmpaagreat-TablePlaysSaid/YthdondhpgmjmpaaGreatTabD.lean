/-
  Package table's walks, the fourth part: grow.
-/
import Derived.Test.YthdondhpgmjmpaaGreatTabQ
import Derived.BigRegion
namespace Go.Proofs.YthdondhpgmjmpaaGreat
set_option linter.unusedVariables false
set_option linter.unusedSimpArgs false
set_option linter.unnecessarySimpa false
open Go.RowKit
set_option maxRecDepth 100000

/-- A table whose slots are new: it holds nothing yet; the elder rows are as they were. -/
theorem tab_anew {w : World} {b : Nat} {O : Nat → Prop} {seed : Nat} {n : Int} {S : Nat} {sema : Value} {g : Nat} {vs : List Value} {L : List It} (h : TabAt w b O seed n S sema g vs L) (m : Nat) (hm : 0 < m) {w' : World}
    (hw : w' = (w.alloc (.cells (List.replicate m (Value.slice none 0 0)).toArray 70)).setCell ⟨b, 4, none⟩ (.slice (some ⟨w.heap.size, 0, none⟩) m m)) :
    TabAt w' b (fun k => k = b ∨ k = w.heap.size) seed n m sema w.heap.size (List.replicate m (.slice none 0 0)) [] ∧ Kept (fun k => k = b) w w' := by
  subst hw
  have hb := lt_of_block h.blk
  have hx : ∀ (i : Nat) (u : Value), (List.replicate m (Value.slice none 0 0))[i]? = some u → u = .slice none 0 0 := by
    intro i u hu
    rw [List.getElem?_replicate] at hu
    split at hu <;> simp_all
  refine ⟨⟨?_, ⟨?_, by simp, .inr rfl, ?_, ?_, ?_⟩, .inl rfl, by omega, ?_, ?_, h.seed_lt, hm⟩, kept_at _ ((Kept.refl _ w).alloc _)⟩
  · rw [setCell_block ((Below.heap_alloc _ _ _ hb).trans h.blk)]; rfl
  · rw [Below.heap_setCell _ _ _ _ (by simp; omega)]
    exact heap_alloc_new w _
  · intro i u hu
    rw [hx i u hu]
    exact Sl.nil _ _ _
  · intro i u k hu hk
    rw [hx i u hu] at hk
    cases hk
  · intro i j u u' k hu _ hk
    rw [hx i u hu] at hk
    cases hk
  · intro i u hu
    rw [hx i u hu]
    simp [Value.ownBlock]
  · intro k hk
    simp [World.setCell]
    omega

theorem TabAt.old {w : World} {b : Nat} {O : Nat → Prop} {seed : Nat} {n : Int} {S : Nat} {sema : Value} {g : Nat} {vs : List Value} {L : List It} (h : TabAt w b O seed n S sema g vs L) (wr : World) (hk : Kept (fun k => k = b) w wr) :
    RowsAt wr g S (fun k => O k ∧ k ≠ b) (rowOf seed S L) vs :=
  (show RowsAt w g S (fun k => O k ∧ k ≠ b) (rowOf seed S L) vs from ⟨h.rows.blk, h.rows.len, ⟨h.rows.own, h.gb⟩, h.rows.row, fun i u k hu hv => ⟨⟨(h.rows.mine i u k hu hv).1, fun e => h.vb i u hu (by rw [hv, e])⟩, (h.rows.mine i u k hu hv).2⟩, h.rows.apart⟩).kept hk (fun k hO e => hO.2 e)

/-- While it grows: the new slots hold the items of M. -/
def GrowJ (w wr : World) (b seed : Nat) (n : Int) (S : Nat) (M : List It) : Prop := ∃ O' sema g vs, TabAt wr b O' seed n (2 * S) sema g vs M ∧ Grew (fun k => k = b) w O' wr

def Grown (w : World) (b : Nat) (O : Nat → Prop) (seed : Nat) (n : Int) (S : Nat) (L : List It) (e : Ending) (w' : World) : Prop :=
  e = .returned (.tuple #[]) ∧ ∃ O' sema g vs M, M.Perm L ∧ TabAt w' b O' seed n (2 * S) sema g vs M ∧ Grew O w O' w'

set_option maxHeartbeats 4000000 in
theorem grow_any (b : Nat) (O : Nat → Prop) (seed : Nat) (n : Int) (S : Nat) (sema : Value) (g : Nat) (vs : List Value) (L : List It) (w : World) (h : TabAt w b O seed n S sema g vs L) (hS : S ≤ 400000) (hL : L.length ≤ 400000) (hks : ∀ x ∈ L, x.key.size ≤ 1000000000) :
    Calls Tryz.prog 18 #[.pointer (some ⟨b, 0, none⟩)] w (Grown w b O seed n S L) := by
  obtain ⟨i0, hi, hz0, hz1, hz2⟩ := info_parts item_info
  have k4 := cell_at h.blk 4
  have f4 := frozen_at h.blk 4
  simp at k4
  have hmk := fun w => make_rows (2 * S) (by omega) w
  have e2 : ((2 * S : Nat) : Int) = 2 * (S : Int) := by omega
  have hpos := h.pos
  obtain ⟨W, hW⟩ : ∃ W, W = (w.alloc (.cells (List.replicate (2 * S) (Value.slice none 0 0)).toArray 70)).setCell ⟨b, 4, none⟩ (.slice (some ⟨w.heap.size, 0, none⟩) (2 * S) (2 * S)) := ⟨_, rfl⟩
  obtain ⟨hT0, hk0⟩ := tab_anew h (2 * S) (by omega) hW
  obtain ⟨R, hR⟩ : ∃ R, R = Obj.cells (List.replicate (2 * S) (Value.slice none 0 0)).toArray 70 := ⟨_, rfl⟩
  rw [← hR] at hW
  simp only [← hR, e2] at hmk
  have a4 : ∀ o, (w.alloc o).cell? ⟨b, 4, none⟩ = some (.slice (some ⟨g, 0, none⟩) S S) := fun o => (cell_alloc_lt (by exact lt_of_block h.blk)).trans k4
  have g4 : ∀ o, (w.alloc o).frozen? ⟨b, 4, none⟩ = false := fun o => frozen_at (T := 67) ((Below.heap_alloc _ _ _ (lt_of_block h.blk)).trans h.blk) _
  have hj0 : GrowJ w W b seed n S [] := ⟨_, _, _, _, hT0, hk0, fun k hk => hk.imp id (fun e => by omega)⟩
  have fin : ∀ wr, GrowJ w wr b seed n S (allRows seed S L).flatten → Grown w b O seed n S L (.returned (.tuple #[])) wr := by
    rintro wr ⟨O', sema', g', vs', h1, h2⟩
    exact ⟨rfl, O', sema', g', vs', _, allRows_perm L hpos, h1, h2.1.mono (fun k _ e => by rw [e]; exact h.ownb), fun k hk => (h2.2 k hk).imp (fun e => by rw [e]; exact h.ownb) id⟩
  have old := h.old
  have hlen := h.rows.len
  have hML : ∀ i, ((allRows seed S L).take i).flatten.length ≤ L.length := fun i => by rw [← (allRows_perm (seed := seed) (S := S) L hpos).length_eq]; exact flatten_take_le _ _
  have OLD := Lib.hid old
  have FIN := Lib.hid fin
  have J0 := Lib.hid hj0
  have HML := Lib.hid hML
  have HLEN := Lib.hid hlen
  have HKS := Lib.hid hks
  clear old fin hj0 hML hT0 hk0 hR e2 hlen hks h
  go_enter Tryz.func18, Tryz.ntmps18
  go_wp2_with fail
  go_loopg [22] S (fun gk k wr => ∃ i : Nat, i + gk = S ∧ k = .int .i64 (i : Int) ∧ GrowJ w wr b seed n S ((allRows seed S L).take i).flatten)
  case atStart => exact ⟨0, by omega, rfl, by first | exact J0.out | (rw [← hW]; exact J0.out)⟩
  case round =>
    obtain ⟨i, hi', rfl, hj⟩ := hrel
    by_cases hlt : i < S
    · obtain ⟨O1, sema1, g1, vs1, hT1, hG1⟩ := hj
      have hold := OLD.out _ hG1.1
      obtain ⟨u, hu⟩ : ∃ u, vs[i]? = some u := ⟨_, List.getElem?_eq_getElem (by rw [HLEN.out]; exact hlt)⟩
      have hsl := hold.row _ _ hu
      have ug : wr.cell? ⟨g, i, none⟩ = some u := by rw [cell_at hold.blk]; simpa using hu
      obtain ⟨ao, ca, rfl, hca⟩ := (Rd.of_sl hsl).shape
      have hrow : ∀ wr', Kept (fun k => k = b) w wr' → ∀ j (hj : j < (rowOf seed S L i).length), _ := fun wr' hk j hj => rd_it (Rd.of_sl ((OLD.out wr' hk).row _ _ hu)) rfl j hj
      have hnext := flatten_take_succ (allRows_at (seed := seed) (L := L) hlt)
      have hml := HML.out (i + 1)
      rw [hnext, List.length_append] at hml
      have hrk : ∀ x ∈ rowOf seed S L i, x.key.size ≤ 1000000000 := fun x hx => HKS.out x (mem_row.1 hx).1
      have HROW := Lib.hid hrow
      have HNEXT := Lib.hid hnext
      have HRK := Lib.hid hrk
      have J1 : Hid (GrowJ w wr b seed n S (((allRows seed S L).take i).flatten ++ (rowOf seed S L i).take 0)) := Lib.hid (by rw [List.take_zero, List.append_nil]; exact ⟨O1, sema1, g1, vs1, hT1, hG1⟩)
      clear hrow hnext hu hsl hold hT1 hG1 hrk
      generalize ((allRows seed S L).take i).flatten = done at *
      generalize rowOf seed S L i = r at *
      obtain ⟨m, hm⟩ : ∃ m, m = r.length := ⟨_, rfl⟩
      rw [← hm] at hca hml ug
      have HM := Lib.hid hm
      clear hm
      go_wp2_with fail
      go_loopg [28] m (fun gk' k wr' => ∃ j : Nat, j + gk' = m ∧ k = .int .i64 (j : Int) ∧ GrowJ w wr' b seed n S (done ++ r.take j))
      case atStart => exact ⟨0, by omega, rfl, J1.out⟩
      case round =>
        obtain ⟨j, hj', rfl, hj⟩ := hrel
        by_cases hjm : j < m
        · obtain ⟨O2, sema2, g2, vs2, hT2, hG2⟩ := hj
          obtain ⟨gx, offx, rfl, x0, x1, x2, x3⟩ := HROW.out _ hG2.1 j (HM.out ▸ hjm)
          have hjr : j < r.length := HM.out ▸ hjm
          have hxk : (r[j]'hjr).key.size ≤ 1000000000 := HRK.out _ (List.getElem_mem _)
          have htk : r.take (j + 1) = r.take j ++ [r[j]'hjr] := List.take_succ_eq_append_getElem _
          have htl : (done ++ r.take j).length ≤ L.length := by rw [List.length_append, List.length_take]; omega
          have HTK := Lib.hid htk
          clear htk
          generalize (r[j]'hjr) = x at *
          go_wp2_with fail
          have hkX : Kept (fun _ => False) wr (wr.alloc (.cells #[.string x.key, .string x.val, .int .i64 x.ver, .int .i64 x.til] 39)) := (Kept.refl _ wr).alloc _
          have hbX := heap_alloc_new wr (.cells #[.string x.key, .string x.val, .int .i64 x.ver, .int .i64 x.til] 39)
          have hOpl : ¬ O2 wr.heap.size := fun hh => by have := hT2.lt _ hh; omega
          refine (place_any b O2 seed n (2 * S) (done ++ r.take j) x.key _ (.inl ⟨_, _, _, hT2.kept0 hkX⟩) (by omega) (by omega) hxk).mono ?_
          rintro e w1 ⟨rr, O3, sema3, g3, vs3, rfl, hf, hT3, hG3⟩
          have hb3 := (hG3.1.block wr.heap.size (by simp) hOpl).trans hbX
          have hG4 : Grew (fun k => k = b) w O3 w1 := (hG2.kept hkX).trans hG3
          have hslt := slotOf_lt (seed := seed) x.key hT3.pos
          obtain ⟨u, hu⟩ : ∃ u, vs3[slotOf seed (2 * S) x.key]? = some u := ⟨_, List.getElem?_eq_getElem (by rw [hT3.rows.len]; exact hslt)⟩
          have hsl := hT3.rows.row _ _ hu
          have hlen := row_length_le (done ++ r.take j) seed (2 * S) (slotOf seed (2 * S) x.key)
          obtain ⟨v4, v5, v6⟩ := hT3.sees hu (Kept.refl (fun _ => False) w1) id id
          have c0 := cell_at hb3 0
          have c1 := cell_at hb3 1
          have c2 := cell_at hb3 2
          have c3 := cell_at hb3 3
          simp at c0 c1 c2 c3
          have l1 := lt_of_block hT3.blk
          have l2 := lt_of_block hT3.rows.blk
          have l3 := lt_of_block hb3
          have hmine := fun k => hT3.rows.mine _ _ k hu
          have hvb := hT3.vb _ _ hu
          have done1 : ∀ (w2 : World) (g4 off cap q : Nat) (W' : World), Kept (fun _ => False) w1 W' → Sl w2 39 4 ((rowOf seed (2 * S) (done ++ r.take j) (slotOf seed (2 * S) x.key)).length + 1) (.slice (some ⟨g4, off, none⟩) ((rowOf seed (2 * S) (done ++ r.take j) (slotOf seed (2 * S) x.key)).length + 1) cap) (flat (rowOf seed (2 * S) (done ++ r.take j) (slotOf seed (2 * S) x.key)) ++ x.cells) →
              Kept (fun k => u.ownBlock = some k) W' w2 → (u.ownBlock = some g4 ∨ W'.heap.size ≤ g4) → GrowJ w (w2.setCell ⟨g3, slotOf seed (2 * S) x.key, none⟩ (.slice (some ⟨g4, off, none⟩) ((rowOf seed (2 * S) (done ++ r.take j) (slotOf seed (2 * S) x.key)).length + 1) cap)) b seed n S (done ++ r.take (j + 1)) := by
            intro w2 g4 off cap q W' hkW hs2 hk2 hg2
            obtain ⟨p1, p2⟩ := (hT3.kept0 hkW).push x hu hs2 rfl hk2 hg2
            rw [HTK.out, ← List.append_assoc]
            exact ⟨_, _, _, _, p1, (hG4.kept hkW).trans p2⟩
          have sees1 : ∀ (w2 W' : World), Kept (fun _ => False) w1 W' → Kept (fun k => u.ownBlock = some k) W' w2 → w2.cell? ⟨b, 4, none⟩ = some (.slice (some ⟨g3, 0, none⟩) (2 * S) (2 * S)) ∧ w2.cell? ⟨g3, slotOf seed (2 * S) x.key, none⟩ = some u ∧ w2.frozen? ⟨g3, slotOf seed (2 * S) x.key, none⟩ = false :=
            fun w2 W' hkW hk2 => (hT3.kept0 hkW).sees hu hk2 hvb (fun e => (hmine g3 e).2 rfl)
          have DONE := Lib.hid done1
          have SEES := Lib.hid sees1
          clear done1 sees1 hf hT3 hG3 hG4 hT2 hG2 hu hbX hb3 hmine hkX hvb
          generalize rowOf seed (2 * S) (done ++ r.take j) (slotOf seed (2 * S) x.key) = row at *
          generalize slotOf seed (2 * S) x.key = s at *
          go_wp2_with fail
          have hs2 : (s : Int) < 2 * S := by omega
          have hs63 : (s : Int) ≤ 9223372036854775807 := by omega
          have hrl : row.length ≤ 400000 := by omega
          go_region_law (refine step_append_sl _ rfl (.tmp 50) (.tmp 52) 70 rfl 39 i0 _ 4 48 Tryz.underlying70 hi hz0 hz1 hz2 rfl (by decide) u row.length (flat row) rfl (hsl.drew.alloc _) ⟨w1.heap.size, 0, none⟩ 1 1 [.string x.key, .string x.val, .int .i64 x.ver, .int .i64 x.til] rfl rfl (cells_new _ _ _ _) (by simp [Value.oneCell']) (by omega) (by unfold maxLen; omega) (by omega) ?_; intro g4 off cap w2 h1 h2 h3; have hkW : Kept (fun _ => False) w1 (w1.drew.alloc (.cells #[.string x.key, .string x.val, .int .i64 x.ver, .int .i64 x.til] 39)) := ((Kept.refl _ w1).drew).alloc _; obtain ⟨q4, q5, q6⟩ := SEES.out w2 _ hkW h2; have FINQ := Lib.hid (DONE.out w2 g4 off cap 0 _ hkW h1 h2 h3); clear h1 h2 h3)
          all_goals
            go_wp2_with fail
            go_roundg (gk - 1)
            case measure => omega
            case rel => exact ⟨j + 1, by omega, by go_num, FINQ.out⟩
        · obtain rfl : j = m := by omega
          rw [List.take_of_length_le (by rw [HM.out]; exact Nat.le_refl _), ← HNEXT.out] at hj
          have HJ := Lib.hid hj
          clear hj
          go_wp2_with fail
          go_roundg (S - i - 1)
          case measure => omega
          case rel => exact ⟨i + 1, by omega, by go_num, HJ.out⟩
    · obtain rfl : i = S := by omega
      rw [List.take_of_length_le (by rw [allRows_length]; exact Nat.le_refl _)] at hj
      have HJ := Lib.hid (FIN.out _ hj)
      clear hj
      go_wp2_with fail
      go_end0
      exact HJ.out
end Go.Proofs.YthdondhpgmjmpaaGreat
