/-
  A table of one's own: what its methods do, in words of the items alone; alive answers true.
-/
import Derived.Test.YtekcjoogggoijaaGreatDoorCp05
set_option linter.unusedVariables false
set_option linter.unusedSimpArgs false
set_option linter.unnecessarySimpa false
namespace Go.Proofs.YtekcjoogggoijaaGreatDoor
open Go.RowKit
set_option maxRecDepth 100000

def growS (S m : Nat) : Nat := if S < m then 2 * S else S

/-- What Put does. -/
def Puts (w : World) (b : Nat) (O : Nat → Prop) (seed S : Nat) (L : List It) (x : It) (e : Ending) (w' : World) : Prop :=
  e = .returned (.bool (!hasB L x.key)) ∧ ∃ O' L', L'.Perm (putL L x) ∧ Tab0 w' b O' seed ((putL L x).length : Nat) (growS S (putL L x).length) L' ∧ Grew O w O' w'

theorem repL_length (L : List It) (x : It) : (repL L x).length = L.length := by simp [repL]

set_option maxHeartbeats 4000000 in
theorem put_any (b : Nat) (O : Nat → Prop) (seed S : Nat) (L : List It) (x : It) (w : World) (h : Tab0 w b O seed (L.length : Nat) S L) (hS : S ≤ 300000) (hSL : L.length ≤ S) (hn : (keys L).Nodup) (hks : ∀ y ∈ L, y.key.size ≤ 1000000000) (hx : x.key.size ≤ 1000000000) :
    Calls Tryz.prog 107 #[.pointer (some ⟨b, 0, none⟩), .agg #[.string x.key, .string x.val, .int .i64 x.ver, .int .i64 x.til]] w (Puts w b O seed S L x) := by
  obtain ⟨i0, hi, hz0, hz1, hz2⟩ := info_parts item_info
  have hkb : Kept (fun _ => False) w (w.alloc (.cells #[.string x.key, .string x.val, .int .i64 x.ver, .int .i64 x.til] 44)) := (Kept.refl _ w).alloc _
  have hT := h.kept hkb (fun _ _ h => h)
  have hbox := heap_alloc_new w (.cells #[.string x.key, .string x.val, .int .i64 x.ver, .int .i64 x.til] 44)
  have hpl : ¬ O w.heap.size := fun hh => by have := h.lt _ hh; omega
  clear h
  go_enter Tryz.func107, Tryz.ntmps107
  go_wp2_with fail
  refine (place_any b O seed _ S L x.key _ hT (by omega) (by omega) hx).mono ?_
  rintro e w1 ⟨r, O1, sema, g, vs, rfl, hf, h1, h2⟩
  have hb1 := (h2.1.block w.heap.size (by simp) hpl).trans hbox
  have hhas := found_has hf
  have hG : Grew O w O1 w1 := (Grew.of_kept hkb).trans h2
  have c0 := cell_at hb1 0
  have c1 := cell_at hb1 1
  have c2 := cell_at hb1 2
  have c3 := cell_at hb1 3
  simp at c0 c1 c2 c3
  have hslt := slotOf_lt (seed := seed) x.key h1.pos
  obtain ⟨u, hu⟩ : ∃ u, vs[slotOf seed S x.key]? = some u := ⟨_, List.getElem?_eq_getElem (by rw [h1.rows.len]; exact hslt)⟩
  have hsl := h1.rows.row _ _ hu
  have hlen := row_length_le L seed S (slotOf seed S x.key)
  obtain ⟨v4, v5, v6⟩ := h1.sees hu (Kept.refl (fun _ => False) w1) id id
  have l1 := lt_of_block h1.blk
  have l2 := lt_of_block h1.rows.blk
  have l3 := lt_of_block hb1
  clear hbox hT hkb h2
  rcases hf with ⟨rfl, hno⟩ | ⟨i, y, rfl, hy, hk⟩
  · have hput : putL L x = L ++ [x] := by unfold putL; rw [hhas]; rfl
    have hmine := fun k => h1.rows.mine _ _ k hu
    have hvb := h1.vb _ _ hu
    have done1 : ∀ (w2 : World) (g4 off cap : Nat) (W' : World), Kept (fun _ => False) w1 W' → Sl w2 44 4 ((rowOf seed S L (slotOf seed S x.key)).length + 1) (.slice (some ⟨g4, off, none⟩) ((rowOf seed S L (slotOf seed S x.key)).length + 1) cap) (flat (rowOf seed S L (slotOf seed S x.key)) ++ x.cells) →
        Kept (fun k => u.ownBlock = some k) W' w2 → (u.ownBlock = some g4 ∨ W'.heap.size ≤ g4) → ∃ O' vs', TabAt (w2.setCell ⟨g, slotOf seed S x.key, none⟩ (.slice (some ⟨g4, off, none⟩) ((rowOf seed S L (slotOf seed S x.key)).length + 1) cap)) b O' seed (L.length : Nat) S sema g vs' (L ++ [x]) ∧ Grew O w O' (w2.setCell ⟨g, slotOf seed S x.key, none⟩ (.slice (some ⟨g4, off, none⟩) ((rowOf seed S L (slotOf seed S x.key)).length + 1) cap)) := by
      intro w2 g4 off cap W' hkW hs2 hk2 hg2
      obtain ⟨p1, p2⟩ := (h1.kept0 hkW).push x hu hs2 rfl hk2 hg2
      exact ⟨_, _, p1, (hG.kept hkW).trans p2⟩
    have sees1 : ∀ (w2 W' : World), Kept (fun _ => False) w1 W' → Kept (fun k => u.ownBlock = some k) W' w2 → w2.cell? ⟨b, 4, none⟩ = some (.slice (some ⟨g, 0, none⟩) S S) ∧ w2.cell? ⟨g, slotOf seed S x.key, none⟩ = some u ∧ w2.frozen? ⟨g, slotOf seed S x.key, none⟩ = false :=
      fun w2 W' hkW hk2 => (h1.kept0 hkW).sees hu hk2 hvb (fun e => (hmine g e).2 rfl)
    have fin : ∀ (w2 w3 : World) (O' O3 : Nat → Prop) (L' : List It), L'.Perm (L ++ [x]) → Tab0 w3 b O3 seed ((L.length + 1 : Nat) : Int) (growS S (L.length + 1)) L' → Grew O w O3 w3 → Puts w b O seed S L x (.returned (.bool true)) w3 := by
      intro w2 w3 O' O3 L' hp ht hg
      refine ⟨by rw [hhas]; rfl, O3, L', by rw [hput]; exact hp, ?_, hg⟩
      rw [hput, List.length_append, List.length_singleton]
      exact ht
    have DONE := Lib.hid done1
    have SEES := Lib.hid sees1
    have FIN := Lib.hid fin
    have hkx : ∀ y ∈ L ++ [x], y.key.size ≤ 1000000000 := fun y hy => (List.mem_append.1 hy).elim (hks y) (fun e => by simp at e; rw [e]; exact hx)
    have HKX := Lib.hid hkx
    clear done1 sees1 fin hput hhas hno hu h1 hG hb1 hmine hvb hkx hks hn
    generalize rowOf seed S L (slotOf seed S x.key) = row at *
    generalize slotOf seed S x.key = s at *
    have hs2 : (s : Int) < S := by omega
    have hs63 : (s : Int) ≤ 9223372036854775807 := by omega
    have hrl : row.length ≤ 400000 := by omega
    go_wp2_with fail
    go_cut [] (fun wr' => ∃ O' vs', TabAt wr' b O' seed (L.length : Nat) S sema g vs' (L ++ [x]) ∧ Grew O w O' wr')
    case first =>
      go_region_law (refine step_append_sl _ rfl (.tmp 39) (.tmp 41) 45 rfl 44 i0 _ 4 48 Tryz.underlying45 hi hz0 hz1 hz2 rfl (by decide) u row.length (flat row) rfl (hsl.drew.alloc _) ⟨w1.heap.size, 0, none⟩ 1 1 [.string x.key, .string x.val, .int .i64 x.ver, .int .i64 x.til] rfl rfl (cells_new _ _ _ _) (by simp [Value.oneCell']) (by omega) (by unfold maxLen; omega) (by omega) ?_; intro g4 off cap w2 h1 h2 h3; have hkW : Kept (fun _ => False) w1 (w1.drew.alloc (.cells #[.string x.key, .string x.val, .int .i64 x.ver, .int .i64 x.til] 44)) := ((Kept.refl _ w1).drew).alloc _; obtain ⟨q4, q5, q6⟩ := SEES.out w2 _ hkW h2; have FINQ := Lib.hid (DONE.out w2 g4 off cap _ hkW h1 h2 h3); clear h1 h2 h3)
      all_goals
        go_wp2_with fail
        go_meet
        case rel => exact FINQ.out
    case rest =>
      obtain ⟨O2, vs2, h2, hG2⟩ := hcut
      have k4 := cell_at h2.blk 4
      have k5 := cell_at h2.blk 5
      have f5 := frozen_at h2.blk 5
      have h5 := Lib.hid (h2.count ((L.length : Nat) + 1))
      simp at k4 k5
      have l5 := lt_of_block h2.blk
      have hw64 : wrap64 ((L.length : Nat) + 1) = (L.length : Nat) + 1 := by clear k4 k5 f5 h5 l5; unfold wrap64; omega
      have HW64 := Lib.hid hw64
      clear hw64
      have hq : ∀ (z : Value), (wc.setCell ⟨b, 5, none⟩ z).cell? ⟨b, 4, none⟩ = some (.slice (some ⟨g, 0, none⟩) S S) := fun z => (World.cell?_setCell_other _ ⟨b, 5, none⟩ ⟨b, 4, none⟩ _ (by simp)).trans k4
      have e1 : (((L.length + 1 : Nat)) : Int) = (L.length : Int) + 1 := by omega
      have hG5 : Grew O w O2 (wc.setCell ⟨b, 5, none⟩ (.int .i64 ((L.length : Nat) + 1))) := ⟨hG2.1.trans (kept_at _ (Kept.refl _ wc)) (fun k hk e => (hG2.2 b h2.ownb).elim (fun h => e ▸ h) (fun h => by omega)), hG2.2⟩
      have H2 := Lib.hid h2
      clear h2
      go_wp2_with fail
      go_cut [53] (fun c wr' => c = .bool (decide ((S : Int) < (L.length : Int) + 1)) ∧ wr' = (wc.setCell ⟨b, 5, none⟩ (.int .i64 ((L.length : Nat) + 1))).drew)
      case first =>
        go_region_with (go_at_call 104; refine (atomic_add b 5 (L.length : Nat) 1 _ _ (by go_simp) (by go_simp) HW64.out).mono ?_; rintro e w4 ⟨rfl, rfl⟩)
        all_goals
          go_wp2_with fail
          go_meet
          case rel => exact ⟨rfl, rfl⟩
      case rest =>
        obtain ⟨rfl, rfl⟩ := hcut
        have hG6 : Grew O w O2 (wc.setCell ⟨b, 5, none⟩ (.int .i64 ((L.length : Nat) + 1))).drew := ⟨hG5.1.drew, hG5.2⟩
        have HT6 := Lib.hid (h5.out.kept0 ((Kept.refl _ _).drew))
        have HE := Lib.hid e1
        clear e1 hG5 hG2 k4 k5 f5 hq
        by_cases hc : (S : Int) < (L.length : Int) + 1
        · have hc' : decide ((S : Int) < (L.length : Int) + 1) = true := decide_eq_true hc
          rw [hc']
          have hgs : growS S (L.length + 1) = 2 * S := by unfold growS; rw [if_pos (by omega)]
          have HGS := Lib.hid hgs
          clear hgs hc hc'
          go_wp2_with fail
          refine (grow_any b O2 seed _ S sema g vs2 (L ++ [x]) _ HT6.out (by omega) (by rw [List.length_append, List.length_singleton]; omega) HKX.out).mono ?_
          rintro e w5 ⟨rfl, O5, sema5, g5, vs5, M, hp, hT, hG⟩
          have FF := Lib.hid (FIN.out w5 w5 O5 O5 M hp (by rw [HGS.out, HE.out]; exact .inl ⟨_, _, _, hT⟩) (hG6.trans hG))
          clear hp hT hG
          go_wp2_with fail
          go_ret
          exact FF.out
        · have hc' : decide ((S : Int) < (L.length : Int) + 1) = false := decide_eq_false hc
          rw [hc']
          have hgs : growS S (L.length + 1) = S := by unfold growS; rw [if_neg (by omega)]
          have FF := Lib.hid (FIN.out wc _ O2 O2 _ (List.Perm.refl _) (by rw [hgs, HE.out]; exact .inl ⟨_, _, _, HT6.out⟩) hG6)
          clear hgs hc hc'
          go_wp2_with fail
          go_ret
          exact FF.out
  · have hput : putL L x = repL L x := by unfold putL; rw [hhas, decide_eq_true (by omega)]; rfl
    obtain ⟨hil, hye⟩ := List.getElem?_eq_some_iff.1 hy
    have hrd := Rd.of_sl hsl
    obtain ⟨ao, ca, rfl, hca⟩ := hrd.shape
    obtain ⟨g2, off, rfl, x0, x1, x2, x3⟩ := rd_it hrd rfl i hil
    rw [hye] at x0 x1 x2 x3
    have fz : ∀ o, w1.frozen? ⟨g2, o, none⟩ = false := by
      intro o
      rcases hsl.2 with ⟨hv, _⟩ | ⟨g', off', cap', cur, hv, hg', _⟩
      · cases hv
      · injection hv with e1
        injection e1 with e1
        injection e1 with e1
        subst e1
        exact frozen_at hg' o
    have fin : ∀ w2, w2 = w1.setCells g2 (off + i * 4) x.cells → Puts w b O seed S L x (.returned (.bool false)) w2.drew := by
      rintro w2 rfl
      obtain ⟨p1, p2⟩ := h1.set hn x hy hk hu
      refine ⟨by rw [hhas, decide_eq_true (by omega)]; rfl, O1, repL L x, by rw [hput], ?_, ?_⟩
      · rw [hput, repL_length, growS, if_neg (by omega)]
        exact .inl ⟨sema, g, vs, p1.kept0 ((Kept.refl _ _).drew)⟩
      · exact ⟨(hG.1.trans p2 (fun k hk hO => (hG.2 k hO).elim id (fun e => by omega))).drew, hG.2⟩
    have FIN := Lib.hid fin
    have hs63 : (slotOf seed S x.key : Int) ≤ 9223372036854775807 := by omega
    have hi63 : (i : Int) ≤ 9223372036854775807 := by omega
    have f0 := fz (off + i * 4)
    have f1 := fz (off + i * 4 + 1)
    have f2 := fz (off + i * 4 + 2)
    have f3 := fz (off + i * 4 + 3)
    clear fin fz hput hhas hy hk hye hu hsl hrd h1 hG hb1
    generalize (rowOf seed S L (slotOf seed S x.key)).length = m at *
    generalize slotOf seed S x.key = s at *
    go_wp2_with fail
    go_region
    all_goals
      go_wp2_with fail
      go_ret
      exact FIN.out _ rfl
end Go.Proofs.YtekcjoogggoijaaGreatDoor
namespace Go.Proofs.YtekcjoogggoijaaGreatDoor
open Go.RowKit
set_option maxRecDepth 100000

theorem hasB_perm {L L' : List It} (h : L'.Perm L) (k : ByteArray) : hasB L' k = hasB L k := by
  rw [Bool.eq_iff_iff, hasB_mem, hasB_mem]
  exact (h.map It.key).mem_iff
theorem putL_perm {L L' : List It} (h : L'.Perm L) (x : It) : (putL L' x).Perm (putL L x) := by
  unfold putL
  rw [hasB_perm h]
  split
  · exact h.map _
  · exact h.append_right _
theorem delL_perm {L L' : List It} (h : L'.Perm L) (k : ByteArray) : (delL L' k).Perm (delL L k) := h.filter _
theorem look_mem {L : List It} (hn : (keys L).Nodup) {k : ByteArray} {x : It} : look L k = some x ↔ x ∈ L ∧ x.key = k := by
  constructor
  · intro h
    have h1 := List.find?_some h
    exact ⟨List.mem_of_find?_eq_some h, by simpa using h1⟩
  · rintro ⟨hm, hk⟩
    induction L with
    | nil => cases hm
    | cons y M ih =>
      simp only [keys, List.map_cons, List.nodup_cons] at hn
      unfold look
      rcases List.mem_cons.1 hm with rfl | h
      · rw [List.find?_cons_of_pos (by simpa using hk)]
      · rw [List.find?_cons_of_neg]
        · exact ih hn.2 h
        · simp only [decide_eq_true_eq]
          exact fun e => hn.1 (by rw [e, ← hk]; exact List.mem_map.2 ⟨x, h, rfl⟩)
theorem look_perm {L L' : List It} (h : L'.Perm L) (hn : (keys L).Nodup) (k : ByteArray) : look L' k = look L k := by
  have hn' : (keys L').Nodup := (h.map It.key).nodup_iff.2 hn
  apply Option.ext
  intro x
  rw [look_mem hn', look_mem hn, h.mem_iff]
theorem look_has (L : List It) (k : ByteArray) : (look L k).isSome = hasB L k := by
  unfold look hasB
  rw [Bool.eq_iff_iff, List.find?_isSome, List.any_eq_true]
theorem putL_sizes {L : List It} {x : It} {N : Nat} (h : ∀ y ∈ L, y.key.size ≤ N) (hx : x.key.size ≤ N) : ∀ y ∈ putL L x, y.key.size ≤ N := by
  intro y hy
  unfold putL at hy
  split at hy
  · obtain ⟨z, hz, rfl⟩ := List.mem_map.1 hy
    split
    · exact hx
    · exact h z hz
  · rcases List.mem_append.1 hy with hy | hy
    · exact h y hy
    · simp at hy
      rw [hy]
      exact hx
theorem putL_length_le (L : List It) (x : It) : (putL L x).length ≤ L.length + 1 := by
  unfold putL
  split
  · rw [repL_length]; omega
  · simp
theorem growS_ge {S m : Nat} (h : m ≤ S + 1) (hS : 0 < S) : m ≤ growS S m := by
  unfold growS
  split <;> omega
theorem growS_pos {S m : Nat} (h : 0 < S) : 0 < growS S m := by
  unfold growS
  split <;> omega

/-- A list of items as a table may hold it. -/
structure Fit (S : Nat) (L : List It) : Prop where
  nodup : (keys L).Nodup
  sizes : ∀ y ∈ L, y.key.size ≤ 1000000000
  le : L.length ≤ S
  pos : 0 < S
theorem Fit.nil : Fit 8 [] := ⟨by simp [keys], by simp, by simp, by omega⟩
theorem Fit.put {S : Nat} {L : List It} (h : Fit S L) {x : It} (hx : x.key.size ≤ 1000000000) : Fit (growS S (putL L x).length) (putL L x) :=
  ⟨putL_nodup x h.nodup, putL_sizes h.sizes hx, growS_ge (by have := putL_length_le L x; have := h.le; omega) h.pos, growS_pos h.pos⟩
theorem Fit.del {S : Nat} {L : List It} (h : Fit S L) (k : ByteArray) : Fit S (delL L k) :=
  ⟨delL_nodup k h.nodup, fun y hy => h.sizes y ((List.mem_filter.1 hy).1), Nat.le_trans (List.length_filter_le _ _) h.le, h.pos⟩

/-- The table at b is all its own: it holds the items of L in whatever order. -/
def Tb (w : World) (b : Nat) (O : Nat → Prop) (seed S : Nat) (L : List It) : Prop := Fit S L ∧ ∃ L', L'.Perm L ∧ Tab0 w b O seed (L.length : Nat) S L'
theorem Tb.kept {w w' : World} {b : Nat} {O T : Nat → Prop} {seed S : Nat} {L : List It} (h : Tb w b O seed S L) (hk : Kept T w w') (hd : ∀ k, O k → ¬ T k) : Tb w' b O seed S L := by
  obtain ⟨hf, L', hp, ht⟩ := h
  exact ⟨hf, L', hp, ht.kept hk hd⟩
theorem Tb.lt {w : World} {b : Nat} {O : Nat → Prop} {seed S : Nat} {L : List It} (h : Tb w b O seed S L) : ∀ k, O k → k < w.heap.size := by
  obtain ⟨hf, L', hp, ht⟩ := h
  exact ht.lt

theorem tb_new (seed : Nat) (w : World) (hs : seed < 4294967296) :
    Calls Tryz.prog 24 #[.int .u32 (seed : Int)] w fun e w' => e = .returned (.pointer (some ⟨w.heap.size, 0, none⟩)) ∧ Tb w' w.heap.size (fun k => k = w.heap.size) seed 8 [] ∧ Kept (fun _ => False) w w' := by
  refine (new_table seed w hs).mono ?_
  rintro e w' ⟨h1, h2, h3⟩
  exact ⟨h1, ⟨Fit.nil, [], List.Perm.refl _, h2⟩, h3⟩

theorem Fit.perm {S : Nat} {L L' : List It} (h : Fit S L) (hp : L'.Perm L) : Fit S L' :=
  ⟨(hp.map It.key).nodup_iff.2 h.nodup, fun y hy => h.sizes y (hp.mem_iff.1 hy), by rw [hp.length_eq]; exact h.le, h.pos⟩

theorem tb_put {b : Nat} {O : Nat → Prop} {seed S : Nat} {L : List It} (x : It) {w : World} (h : Tb w b O seed S L) (hS : S ≤ 300000) (hx : x.key.size ≤ 1000000000) :
    Calls Tryz.prog 107 #[.pointer (some ⟨b, 0, none⟩), .agg #[.string x.key, .string x.val, .int .i64 x.ver, .int .i64 x.til]] w fun e w' =>
      e = .returned (.bool (!hasB L x.key)) ∧ ∃ O', Tb w' b O' seed (growS S (putL L x).length) (putL L x) ∧ Grew O w O' w' := by
  obtain ⟨hf, L', hp, ht⟩ := h
  have hf' := hf.perm hp
  rw [← hp.length_eq] at ht
  refine (put_any b O seed S L' x w ht hS hf'.le hf'.nodup hf'.sizes hx).mono ?_
  rintro e w' ⟨rfl, O', L2, hp2, ht2, hg⟩
  have hpp := putL_perm hp x
  rw [hpp.length_eq] at ht2
  exact ⟨by rw [hasB_perm hp], O', ⟨hf.put hx, L2, hp2.trans hpp, ht2⟩, hg⟩

theorem tb_get {b : Nat} {O : Nat → Prop} {seed S : Nat} {L : List It} (key : ByteArray) {w : World} (h : Tb w b O seed S L) (hS : S ≤ 1000000) (hx : key.size ≤ 1000000000) :
    Calls Tryz.prog 41 #[.pointer (some ⟨b, 0, none⟩), .string key] w fun e w' => e = .returned (gotV (look L key)) ∧ ∃ O', Tb w' b O' seed S L ∧ Grew O w O' w' := by
  obtain ⟨hf, L', hp, ht⟩ := h
  have hf' := hf.perm hp
  refine (get_any b O seed _ S L' key w ht hS (by have := hf'.le; omega) hx hf'.nodup).mono ?_
  rintro e w' ⟨rfl, O', ht2, hg⟩
  exact ⟨by rw [look_perm hp hf.nodup], O', ⟨hf, L', hp, ht2⟩, hg⟩

theorem tb_len {b : Nat} {O : Nat → Prop} {seed S : Nat} {L : List It} {w : World} (h : Tb w b O seed S L) :
    Calls Tryz.prog 29 #[.pointer (some ⟨b, 0, none⟩)] w fun e w' => e = .returned (.int .i64 (L.length : Nat)) ∧ w = w' := by
  obtain ⟨hf, L', hp, ht⟩ := h
  exact len_any b O seed _ S L' w ht


/-- A table that was made in this call: nothing that was there ahead of it has turned. -/
def OwnT (w0 w : World) (b seed S : Nat) (L : List It) : Prop := Kept (fun _ => False) w0 w ∧ ∃ O, Tb w b O seed S L ∧ ∀ k, O k → w0.heap.size ≤ k
theorem OwnT.step {w0 w w' : World} {b seed S' : Nat} {L' : List It} {O : Nat → Prop} (hk : Kept (fun _ => False) w0 w) (hO : ∀ k, O k → w0.heap.size ≤ k) {O' : Nat → Prop} (ht : Tb w' b O' seed S' L') (hg : Grew O w O' w') : OwnT w0 w' b seed S' L' :=
  ⟨hk.trans hg.1 (fun i hi h => by have := hO i h; omega), O', ht, fun k hk' => (hg.2 k hk').elim (hO k) (fun e => by have := hk.size; omega)⟩
theorem OwnT.kept {w0 w w' : World} {b seed S : Nat} {L : List It} (h : OwnT w0 w b seed S L) (hk : Kept (fun _ => False) w w') : OwnT w0 w' b seed S L := by
  obtain ⟨h1, O, h2, h3⟩ := h
  exact ⟨h1.trans hk (fun _ _ h => h), O, h2.kept hk (fun _ _ h => h), h3⟩

theorem own_new {w0 w : World} (seed : Nat) (hs : seed < 4294967296) (hk : Kept (fun _ => False) w0 w) :
    Calls Tryz.prog 24 #[.int .u32 (seed : Int)] w fun e w' => ∃ b, e = .returned (.pointer (some ⟨b, 0, none⟩)) ∧ OwnT w0 w' b seed 8 [] := by
  refine (tb_new seed w hs).mono ?_
  rintro e w' ⟨rfl, h1, h2⟩
  exact ⟨_, rfl, hk.trans h2 (fun _ _ h => h), _, h1, fun k e => by rw [e]; exact hk.size⟩
theorem own_put {w0 w : World} {b seed S : Nat} {L : List It} (x : It) {r : Bool} {S' : Nat} {L' : List It} (h : OwnT w0 w b seed S L) (hS : S ≤ 300000) (hx : x.key.size ≤ 1000000000) (hr : (!hasB L x.key) = r) (hL : putL L x = L') (hS' : growS S L'.length = S') :
    Calls Tryz.prog 107 #[.pointer (some ⟨b, 0, none⟩), .agg #[.string x.key, .string x.val, .int .i64 x.ver, .int .i64 x.til]] w fun e w' => e = .returned (.bool r) ∧ OwnT w0 w' b seed S' L' := by
  obtain ⟨h1, O, h2, h3⟩ := h
  subst hr hL hS'
  refine (tb_put x h2 hS hx).mono ?_
  rintro e w' ⟨rfl, O', ht, hg⟩
  exact ⟨rfl, .step h1 h3 ht hg⟩
theorem own_get {w0 w : World} {b seed S : Nat} {L : List It} (key : ByteArray) {r : Value} (h : OwnT w0 w b seed S L) (hS : S ≤ 1000000) (hx : key.size ≤ 1000000000) (hr : gotV (look L key) = r) :
    Calls Tryz.prog 41 #[.pointer (some ⟨b, 0, none⟩), .string key] w fun e w' => e = .returned r ∧ OwnT w0 w' b seed S L := by
  obtain ⟨h1, O, h2, h3⟩ := h
  subst hr
  refine (tb_get key h2 hS hx).mono ?_
  rintro e w' ⟨rfl, O', ht, hg⟩
  exact ⟨rfl, .step h1 h3 ht hg⟩
theorem own_len {w0 w : World} {b seed S : Nat} {L : List It} (h : OwnT w0 w b seed S L) :
    Calls Tryz.prog 29 #[.pointer (some ⟨b, 0, none⟩)] w fun e w' => e = .returned (.int .i64 (L.length : Nat)) ∧ w = w' := by
  obtain ⟨h1, O, h2, h3⟩ := h
  exact tb_len h2
end Go.Proofs.YtekcjoogggoijaaGreatDoor
