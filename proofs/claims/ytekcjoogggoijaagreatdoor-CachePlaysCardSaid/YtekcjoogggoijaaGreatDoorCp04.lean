/-
  Package table's walks, the third part: New, Len, Slots, Get.
-/
import Derived.Test.YtekcjoogggoijaaGreatDoorCp03
import Derived.BigQuiet
import Derived.Laws.ResultCell
set_option linter.unusedVariables false
set_option linter.unusedSimpArgs false
set_option linter.unnecessarySimpa false
namespace Go.Proofs.YtekcjoogggoijaaGreatDoor
open Go.RowKit
set_option maxRecDepth 100000

/-- The rows of a table: one slice value each, no two on one row of memory; O: the blocks that the table owns. -/
structure RowsAt (w : World) (g S : Nat) (O : Nat → Prop) (rows : Nat → List It) (vs : List Value) : Prop where
  blk : w.heap[g]? = some (.cells vs.toArray 45 (0, 0))
  len : vs.length = S
  own : O g
  row : ∀ (i : Nat) (u : Value), vs[i]? = some u → Sl w 44 4 (rows i).length u (flat (rows i))
  mine : ∀ (i : Nat) (u : Value) (k : Nat), vs[i]? = some u → u.ownBlock = some k → O k ∧ k ≠ g
  apart : ∀ (i j : Nat) (u u' : Value) (k : Nat), vs[i]? = some u → vs[j]? = some u' → u.ownBlock = some k → u'.ownBlock = some k → i = j

/-- A table whose slots are made: it holds the items of L. -/
structure TabAt (w : World) (b : Nat) (O : Nat → Prop) (seed : Nat) (n : Int) (S : Nat) (sema : Value) (g : Nat) (vs : List Value) (L : List It) : Prop where
  blk : w.heap[b]? = some (.cells #[.int .u32 (seed : Int), .int .u32 1, .int .i32 0, sema, .slice (some ⟨g, 0, none⟩) S S, .int .i64 n] 113 (0, 0))
  rows : RowsAt w g S O (rowOf seed S L) vs
  ownb : O b
  gb : g ≠ b
  vb : ∀ (i : Nat) (u : Value), vs[i]? = some u → u.ownBlock ≠ some b
  lt : ∀ k, O k → k < w.heap.size
  seed_lt : seed < 4294967296
  pos : 0 < S

/-- What was there is as it was but for the blocks of O; what is owned now was owned, or is new. -/
def Grew (O : Nat → Prop) (w : World) (O' : Nat → Prop) (w' : World) : Prop := Kept O w w' ∧ ∀ k, O' k → O k ∨ w.heap.size ≤ k
theorem Grew.refl (O : Nat → Prop) (w : World) : Grew O w O w := ⟨Kept.refl _ _, fun _ h => .inl h⟩
theorem Grew.trans {O₁ O₂ O₃ : Nat → Prop} {a b c : World} (h : Grew O₁ a O₂ b) (k : Grew O₂ b O₃ c) : Grew O₁ a O₃ c :=
  ⟨h.1.trans k.1 (fun i hi hs => (h.2 i hs).elim id (fun e => by omega)), fun i hi => (k.2 i hi).elim (h.2 i) (fun e => .inr (Nat.le_trans h.1.size e))⟩
theorem Grew.kept {O O' : Nat → Prop} {a b c : World} (h : Grew O a O' b) (k : Kept (fun _ => False) b c) : Grew O a O' c :=
  ⟨h.1.trans k (fun _ _ h => h.elim), h.2⟩
theorem Grew.of_kept {O : Nat → Prop} {a b : World} (k : Kept (fun _ => False) a b) : Grew O a O b := ⟨k.mono (fun _ _ h => h.elim), fun _ h => .inl h⟩

theorem RowsAt.kept {w w' : World} {g S : Nat} {O T : Nat → Prop} {rows : Nat → List It} {vs : List Value} (h : RowsAt w g S O rows vs) (hk : Kept T w w') (hd : ∀ k, O k → ¬ T k) : RowsAt w' g S O rows vs :=
  ⟨(hk.block g (lt_of_block h.blk) (hd g h.own)).trans h.blk, h.len, h.own, fun i u hu => (h.row i u hu).kept hk (fun k hv => hd k (h.mine i u k hu hv).1), h.mine, h.apart⟩
theorem TabAt.kept {w w' : World} {b : Nat} {O T : Nat → Prop} {seed : Nat} {n : Int} {S : Nat} {sema : Value} {g : Nat} {vs : List Value} {L : List It} (h : TabAt w b O seed n S sema g vs L) (hk : Kept T w w') (hd : ∀ k, O k → ¬ T k) :
    TabAt w' b O seed n S sema g vs L :=
  ⟨(hk.block b (lt_of_block h.blk) (hd b h.ownb)).trans h.blk, h.rows.kept hk hd, h.ownb, h.gb, h.vb, fun k hO => Nat.lt_of_lt_of_le (h.lt k hO) hk.size, h.seed_lt, h.pos⟩
theorem TabAt.kept0 {w w' : World} {b : Nat} {O : Nat → Prop} {seed : Nat} {n : Int} {S : Nat} {sema : Value} {g : Nat} {vs : List Value} {L : List It} (h : TabAt w b O seed n S sema g vs L) (hk : Kept (fun _ => False) w w') :
    TabAt w' b O seed n S sema g vs L := h.kept hk (fun _ _ h => h)

/-- A table, its slots made or not. -/
def Tab0 (w : World) (b : Nat) (O : Nat → Prop) (seed : Nat) (n : Int) (S : Nat) (L : List It) : Prop :=
  (∃ sema g vs, TabAt w b O seed n S sema g vs L) ∨
  (S = 8 ∧ n = 0 ∧ L = [] ∧ seed < 4294967296 ∧ O = (fun k => k = b) ∧ ∃ sema, w.heap[b]? = some (.cells #[.int .u32 (seed : Int), .int .u32 0, .int .i32 0, sema, .slice none 0 0, .int .i64 0] 113 (0, 0)))
theorem Tab0.kept {w w' : World} {b : Nat} {O T : Nat → Prop} {seed : Nat} {n : Int} {S : Nat} {L : List It} (h : Tab0 w b O seed n S L) (hk : Kept T w w') (hd : ∀ k, O k → ¬ T k) : Tab0 w' b O seed n S L := by
  rcases h with ⟨sema, g, vs, h⟩ | ⟨h1, h2, h3, h4, h5, sema, h6⟩
  · exact .inl ⟨sema, g, vs, h.kept hk hd⟩
  · exact .inr ⟨h1, h2, h3, h4, h5, sema, (hk.block b (lt_of_block h6) (hd b (by rw [h5]))).trans h6⟩
theorem Tab0.lt {w : World} {b : Nat} {O : Nat → Prop} {seed : Nat} {n : Int} {S : Nat} {L : List It} (h : Tab0 w b O seed n S L) : ∀ k, O k → k < w.heap.size := by
  rcases h with ⟨sema, g, vs, h⟩ | ⟨h1, h2, h3, h4, h5, sema, h6⟩
  · exact h.lt
  · intro k hk
    rw [h5] at hk
    subst hk
    exact lt_of_block h6
theorem Tab0.seed_lt {w : World} {b : Nat} {O : Nat → Prop} {seed : Nat} {n : Int} {S : Nat} {L : List It} (h : Tab0 w b O seed n S L) : seed < 4294967296 := by
  rcases h with ⟨sema, g, vs, h⟩ | ⟨h1, h2, h3, h4, h5, sema, h6⟩
  · exact h.seed_lt
  · exact h4

theorem tab_made {w w' : World} {b seed : Nat} {sema : Value} (hs : seed < 4294967296) (hb : b < w.heap.size) (h : MadeFirst w w' b (.int .u32 (seed : Int)) sema (.int .i64 0)) :
    ∃ O' g vs, TabAt w' b O' seed 0 8 sema g vs [] ∧ Grew (fun k => k = b) w O' w' := by
  obtain ⟨g, h1, h2, h3, h4⟩ := h
  refine ⟨fun k => k = b ∨ k = g, g, List.replicate 8 (.slice none 0 0), ⟨h1, ⟨h2, by simp, .inr rfl, ?_, ?_, ?_⟩, .inl rfl, by omega, ?_, ?_, hs, by omega⟩, h4, ?_⟩
  · intro i u hu
    obtain rfl : u = .slice none 0 0 := by
      rw [List.getElem?_replicate] at hu
      split at hu <;> simp_all
    exact Sl.nil _ _ _
  · intro i u k hu hk
    obtain rfl : u = .slice none 0 0 := by
      rw [List.getElem?_replicate] at hu
      split at hu <;> simp_all
    simp [Value.ownBlock] at hk
  · intro i j u u' k hu hu' hk
    obtain rfl : u = .slice none 0 0 := by
      rw [List.getElem?_replicate] at hu
      split at hu <;> simp_all
    simp [Value.ownBlock] at hk
  · intro i u hu
    obtain rfl : u = .slice none 0 0 := by
      rw [List.getElem?_replicate] at hu
      split at hu <;> simp_all
    simp [Value.ownBlock]
  · intro k hk
    rcases hk with rfl | rfl
    · exact lt_of_block h1
    · exact lt_of_block h2
  · intro k hk
    exact hk.imp id (fun e => by omega)

theorem made_any (b : Nat) (O : Nat → Prop) (seed : Nat) (n : Int) (S : Nat) (L : List It) (w : World) (h : Tab0 w b O seed n S L) :
    Calls Tryz.prog 112 #[.pointer (some ⟨b, 0, none⟩)] w fun e w' => e = .returned (.tuple #[]) ∧ ∃ O' sema g vs, TabAt w' b O' seed n S sema g vs L ∧ Grew O w O' w' := by
  rcases h with ⟨sema, g, vs, h⟩ | ⟨rfl, rfl, rfl, h4, rfl, sema, h6⟩
  · refine (made_again b w (by simpa using cell_at h.blk 1)).mono ?_
    rintro e w' ⟨rfl, hk⟩
    exact ⟨rfl, O, sema, g, vs, h.kept0 hk, .of_kept hk⟩
  · refine (made_first b _ _ _ _ w h6).mono ?_
    rintro e w' ⟨rfl, hm⟩
    obtain ⟨O', g, vs, h1, h2⟩ := tab_made h4 (lt_of_block h6) hm
    exact ⟨rfl, O', sema, g, vs, h1, h2⟩

/-- The place of a key: its slot, and where in its row. -/
def Placed (w : World) (b : Nat) (O : Nat → Prop) (seed : Nat) (n : Int) (S : Nat) (L : List It) (key : ByteArray) (e : Ending) (w' : World) : Prop :=
  ∃ r O' sema g vs, e = .returned (.tuple #[.int .i64 (slotOf seed S key : Nat), .int .i64 r]) ∧ Found key (rowOf seed S L (slotOf seed S key)) r ∧ TabAt w' b O' seed n S sema g vs L ∧ Grew O w O' w'

theorem place_any (b : Nat) (O : Nat → Prop) (seed : Nat) (n : Int) (S : Nat) (L : List It) (key : ByteArray) (w : World) (h : Tab0 w b O seed n S L) (hS : S ≤ 1000000) (hL : L.length ≤ 1000000) (hkey : key.size ≤ 1000000000) :
    Calls Tryz.prog 87 #[.pointer (some ⟨b, 0, none⟩), .string key] w (Placed w b O seed n S L key) := by
  have hmf : ∀ (fn : Fn) (first cap : Array Value) (w : World), (Instr.makeFunc fn first cap).run Tryz.prog w = .ok (.func fn first cap) w := fun _ _ _ _ => rfl
  have hbox := cell_at (heap_alloc_new w (.cells #[.string key] 9)) 0
  have hkb : Kept (fun _ => False) w (w.alloc (.cells #[.string key] 9)) := (Kept.refl _ w).alloc _
  have hT := h.kept hkb (fun _ _ h => h)
  have hpl : ¬ O w.heap.size := fun hh => by have := h.lt _ hh; omega
  obtain ⟨pl, hpl0⟩ : ∃ pl, pl = w.heap.size := ⟨_, rfl⟩
  rw [← hpl0] at hbox hpl
  simp at hbox
  have HP := Lib.hid hpl0
  clear h
  go_enter Tryz.func87, Tryz.ntmps87
  go_wp2_with fail
  rw [← hpl0]
  clear hpl0
  refine (made_any b O seed n S L _ hT).mono ?_
  rintro e w1 ⟨rfl, O1, sema, g, vs, h1, h2⟩
  have hseed := h1.seed_lt
  have hpos := h1.pos
  have k0 := cell_at h1.blk 0
  have k4 := cell_at h1.blk 4
  simp at k0 k4
  have p1 : w1.cell? ⟨pl, 0, none⟩ = some (.string key) := (h2.1.cell (by simp [HP.out]) hpl).trans hbox
  have hh := hashN_lt key seed hseed
  have htm : (hashN key seed : Int).tmod (S : Int) = (slotOf seed S key : Nat) := by unfold slotOf; rw [Int.tmod_eq_emod_of_nonneg (by omega)]; rfl
  have hslt := slotOf_lt (seed := seed) key hpos
  obtain ⟨u, hu⟩ : ∃ u, vs[slotOf seed S key]? = some u := ⟨_, List.getElem?_eq_getElem (by rw [h1.rows.len]; exact hslt)⟩
  have hsl := h1.rows.row _ _ hu
  have hlen := row_length_le L seed S (slotOf seed S key)
  have ug : w1.cell? ⟨g, slotOf seed S key, none⟩ = some u := by rw [cell_at h1.rows.blk]; simpa using hu
  have fin : ∀ r w2, Found key (rowOf seed S L (slotOf seed S key)) r → Kept (fun _ => False) w1 w2 → Placed w b O seed n S L key (.returned (.tuple #[.int .i64 (slotOf seed S key : Nat), .int .i64 r])) w2 :=
    fun r w2 hf hk => ⟨r, O1, sema, g, vs, rfl, hf, h1.kept0 hk, ((Grew.of_kept hkb).trans h2).kept hk⟩
  have FIN := Lib.hid fin
  clear fin
  generalize rowOf seed S L (slotOf seed S key) = rw_ at *
  have HH := Lib.hid (fun w' => hash_any key seed w' hseed hkey)
  clear hu h1 h2 hT hkb hbox hpl
  generalize slotOf seed S key = s at *
  generalize hashN key seed = hv at *
  have hS0 : ¬ (S : Int) = 0 := by omega
  go_wp2_with fail
  go_quiet ((go_at_call 113; exact Calls.quiet_of_same ((HH.out _).mono fun _ _ h => ⟨h.1, h.2.symm⟩)))
  have hs63 : (s : Int) ≤ 9223372036854775807 := by omega
  go_wp2_with fail
  refine (index_key u rw_ pl key _ (Rd.of_sl (w := w1.drewN nq) hsl) (by omega) p1).mono ?_
  rintro e w2 ⟨⟨r, rfl, hf⟩, hk⟩
  go_wp2_with fail
  go_ret2
  have hk' : Kept (fun _ => False) w1 w2 := ((Kept.refl _ w1).drewN nq).trans hk (fun _ _ h => h)
  exact FIN.out r _ hf hk'
end Go.Proofs.YtekcjoogggoijaaGreatDoor
namespace Go.Proofs.YtekcjoogggoijaaGreatDoor
open Go.RowKit
set_option maxRecDepth 100000

theorem new_table (seed : Nat) (w : World) (hs : seed < 4294967296) :
    Calls Tryz.prog 24 #[.int .u32 (seed : Int)] w fun e w' => e = .returned (.pointer (some ⟨w.heap.size, 0, none⟩)) ∧ Tab0 w' w.heap.size (fun k => k = w.heap.size) seed 0 8 [] ∧ Kept (fun _ => False) w w' := by
  have hn := heap_alloc_new w (.cells #[.int .u32 (seed : Int), .int .u32 0, .int .i32 0, .int .u32 0, .slice none 0 0, .int .i64 0] 113)
  have HN := Lib.hid (show Tab0 (w.alloc (.cells #[.int .u32 (seed : Int), .int .u32 0, .int .i32 0, .int .u32 0, .slice none 0 0, .int .i64 0] 113)) w.heap.size (fun k => k = w.heap.size) seed 0 8 [] from .inr ⟨rfl, rfl, rfl, hs, rfl, _, hn⟩)
  clear hn
  go_enter Tryz.func24, Tryz.ntmps24
  go_wp2_with fail
  go_ret
  exact ⟨rfl, HN.out, (Kept.refl _ w).alloc _⟩

theorem tab0_n {w : World} {b : Nat} {O : Nat → Prop} {seed : Nat} {n : Int} {S : Nat} {L : List It} (h : Tab0 w b O seed n S L) : w.cell? ⟨b, 5, none⟩ = some (.int .i64 n) := by
  rcases h with ⟨sema, g, vs, h⟩ | ⟨h1, rfl, h3, h4, h5, sema, h6⟩
  · simpa using cell_at h.blk 5
  · simpa using cell_at h6 5

theorem len_any (b : Nat) (O : Nat → Prop) (seed : Nat) (n : Int) (S : Nat) (L : List It) (w : World) (h : Tab0 w b O seed n S L) :
    Calls Tryz.prog 29 #[.pointer (some ⟨b, 0, none⟩)] w fun e w' => e = .returned (.int .i64 n) ∧ w = w' := by
  have k5 := tab0_n h
  go_enter Tryz.func29, Tryz.ntmps29
  go_wp2_with fail
  refine (atomic_load b 5 n _ k5).mono ?_
  rintro e w1 ⟨rfl, rfl⟩
  go_wp2_with fail
  go_ret
  exact ⟨rfl, rfl⟩


/-- What Get answers. -/
def gotV (o : Option It) : Value := .tuple #[(o.getD It.none).v, .bool o.isSome]

theorem look_found {L : List It} {seed S : Nat} {k : ByteArray} {i : Nat} {x : It} (hn : (keys L).Nodup) (h : (rowOf seed S L (slotOf seed S k))[i]? = some x) (hk : x.key = k) : look L k = some x := by
  have hm := (mem_row.1 (List.mem_of_getElem? h)).1
  unfold look
  have gen : ∀ M : List It, (keys M).Nodup → x ∈ M → M.find? (fun y => decide (y.key = k)) = some x := by
    intro M
    induction M with
    | nil => intro _ h; cases h
    | cons y M ih =>
      intro hn h
      simp only [keys, List.map_cons, List.nodup_cons] at hn
      rcases List.mem_cons.1 h with rfl | h
      · rw [List.find?_cons_of_pos (by simpa using hk)]
      · rw [List.find?_cons_of_neg]
        · exact ih hn.2 h
        · simp only [decide_eq_true_eq]
          exact fun e => hn.1 (by rw [e, ← hk]; exact List.mem_map.2 ⟨x, h, rfl⟩)
  exact gen L hn hm
theorem look_none {L : List It} {k : ByteArray} (h : hasB L k = false) : look L k = none := by
  unfold look
  rw [List.find?_eq_none]
  intro x hx hk
  have : hasB L k = true := by
    unfold hasB
    rw [List.any_eq_true]
    exact ⟨x, hx, hk⟩
  rw [this] at h
  cases h

theorem kept_at {b o : Nat} {a w : World} (u : Value) (h : Kept (fun k => k = b) a w) : Kept (fun k => k = b) a (w.setCell ⟨b, o, none⟩ u) := h.setCell (p := ⟨b, o, none⟩) (fun _ => rfl) u

def Gets (w : World) (b : Nat) (O : Nat → Prop) (seed : Nat) (n : Int) (S : Nat) (L : List It) (key : ByteArray) (e : Ending) (w' : World) : Prop :=
  e = .returned (gotV (look L key)) ∧ ∃ O', Tab0 w' b O' seed n S L ∧ Grew O w O' w'

theorem get_any (b : Nat) (O : Nat → Prop) (seed : Nat) (n : Int) (S : Nat) (L : List It) (key : ByteArray) (w : World) (h : Tab0 w b O seed n S L) (hS : S ≤ 1000000) (hL : L.length ≤ 1000000) (hkey : key.size ≤ 1000000000) (hn : (keys L).Nodup) :
    Calls Tryz.prog 41 #[.pointer (some ⟨b, 0, none⟩), .string key] w (Gets w b O seed n S L key) := by
  have hkb : Kept (fun _ => False) w (w.alloc (.cells #[.string ByteArray.empty, .string ByteArray.empty, .int .i64 0, .int .i64 0] 44)) := (Kept.refl _ w).alloc _
  have hT := h.kept hkb (fun _ _ h => h)
  have hbox := heap_alloc_new w (.cells #[.string ByteArray.empty, .string ByteArray.empty, .int .i64 0, .int .i64 0] 44)
  have hpl : ¬ O w.heap.size := fun hh => by have := h.lt _ hh; omega
  obtain ⟨pl, hpl0⟩ : ∃ pl, pl = w.heap.size := ⟨_, rfl⟩
  rw [← hpl0] at hbox hpl
  have HP := Lib.hid hpl0
  clear h
  go_enter Tryz.func41, Tryz.ntmps41
  go_wp2_with fail
  rw [← hpl0]
  clear hpl0
  refine (place_any b O seed n S L key _ hT hS hL hkey).mono ?_
  rintro e w1 ⟨r, O1, sema, g, vs, rfl, hf, h1, h2⟩
  have hb1 := (h2.1.block pl (by simp [HP.out]) hpl).trans hbox
  have hhas := found_has hf
  have hO1 : ¬ O1 pl := fun hh => (h2.2 pl hh).elim hpl (fun e => by simp [HP.out] at e; omega)
  have fin : ∀ w2 o, look L key = o → Kept (fun k => k = pl) w1 w2 → Gets w b O seed n S L key (.returned (gotV o)) w2 := by
    rintro w2 o rfl hk
    refine ⟨rfl, O1, .inl ⟨sema, g, vs, h1.kept hk (fun k hO e => hO1 (e ▸ hO))⟩, ?_, fun k hk => (h2.2 k hk).imp id (fun e => by simp at e; omega)⟩
    exact ((hkb.mono (T := O) (fun _ _ h => h.elim)).trans h2.1 (fun _ _ h => h)).trans hk (fun i hi e => absurd hi (by rw [e, HP.out]; omega))
  have FIN := Lib.hid fin
  clear fin hbox hT hkb h2
  have c0 := cell_at hb1 0
  have c1 := cell_at hb1 1
  have c2 := cell_at hb1 2
  have c3 := cell_at hb1 3
  have f0 := frozen_at hb1 0
  have f1 := frozen_at hb1 1
  have f2 := frozen_at hb1 2
  have f3 := frozen_at hb1 3
  simp at c0 c1 c2 c3
  rcases hf with ⟨rfl, hno⟩ | ⟨i, x, rfl, hx, hk⟩
  · have hlook := Lib.hid (look_none (by simpa using hhas))
    clear h1 hno hhas
    go_wp2_with fail
    (try simp only [Exit.inBlock, Exit.then])
    refine bodyPost_ret (v := .tuple #[.agg #[.string ByteArray.empty, .string ByteArray.empty, .int .i64 0, .int .i64 0], .bool false]) ?_ rfl ?_
    · rw [results_cell_tmp rfl]
      go_simp
      try rfl
    · refine FIN.out _ _ hlook.out ?_
      exact kept_at _ (kept_at _ (kept_at _ (kept_at _ (Kept.refl _ _))))
  · have hlook := Lib.hid (look_found hn hx hk)
    have hslt := slotOf_lt (seed := seed) key h1.pos
    obtain ⟨u, hu⟩ : ∃ u, vs[slotOf seed S key]? = some u := ⟨_, List.getElem?_eq_getElem (by rw [h1.rows.len]; exact hslt)⟩
    have hsl := h1.rows.row _ _ hu
    have hlen := row_length_le L seed S (slotOf seed S key)
    have ug : w1.cell? ⟨g, slotOf seed S key, none⟩ = some u := by rw [cell_at h1.rows.blk]; simpa using hu
    have k4 := cell_at h1.blk 4
    simp at k4
    obtain ⟨hil, hxe⟩ := List.getElem?_eq_some_iff.1 hx
    have hrd := Rd.of_sl hsl
    obtain ⟨ao, ca, rfl, hca⟩ := hrd.shape
    obtain ⟨g2, off, rfl, x0, x1, x2, x3⟩ := rd_it hrd rfl i hil
    rw [hxe] at x0 x1 x2 x3
    clear hhas hx hk hu hsl hrd hxe h1
    generalize (rowOf seed S L (slotOf seed S key)).length = m at *
    generalize slotOf seed S key = s at *
    have hs63 : (s : Int) ≤ 9223372036854775807 := by omega
    go_wp2_with fail
    (try simp only [Exit.inBlock, Exit.then])
    refine bodyPost_ret (v := .tuple #[.agg #[.string x.key, .string x.val, .int .i64 x.ver, .int .i64 x.til], .bool true]) ?_ rfl ?_
    · rw [results_cell_tmp rfl]
      go_simp
      try rfl
    · refine FIN.out _ _ hlook.out ?_
      exact kept_at _ (kept_at _ (kept_at _ (kept_at _ (Kept.refl _ _))))
end Go.Proofs.YtekcjoogggoijaaGreatDoor
