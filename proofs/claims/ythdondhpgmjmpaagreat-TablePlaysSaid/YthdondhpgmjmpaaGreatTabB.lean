/-
  Package table's walks, the second part: a table in memory; made, place.
-/
import Derived.Test.YthdondhpgmjmpaaGreatTabA
import Derived.BigQuiet
namespace Go.Proofs.YthdondhpgmjmpaaGreat
set_option linter.unusedVariables false
set_option linter.unusedSimpArgs false
set_option linter.unnecessarySimpa false
open Go.RowKit
set_option maxRecDepth 100000

/-- The rows of a table: one slice value each, no two on one row of memory; O: the blocks that the table owns. -/
structure RowsAt (w : World) (g S : Nat) (O : Nat → Prop) (rows : Nat → List It) (vs : List Value) : Prop where
  blk : w.heap[g]? = some (.cells vs.toArray 70 (0, 0))
  len : vs.length = S
  own : O g
  row : ∀ (i : Nat) (u : Value), vs[i]? = some u → Sl w 39 4 (rows i).length u (flat (rows i))
  mine : ∀ (i : Nat) (u : Value) (k : Nat), vs[i]? = some u → u.ownBlock = some k → O k ∧ k ≠ g
  apart : ∀ (i j : Nat) (u u' : Value) (k : Nat), vs[i]? = some u → vs[j]? = some u' → u.ownBlock = some k → u'.ownBlock = some k → i = j

/-- A table whose slots are made: it holds the items of L. -/
structure TabAt (w : World) (b : Nat) (O : Nat → Prop) (seed : Nat) (n : Int) (S : Nat) (sema : Value) (g : Nat) (vs : List Value) (L : List It) : Prop where
  blk : w.heap[b]? = some (.cells #[.int .u32 (seed : Int), .int .u32 1, .int .i32 0, sema, .slice (some ⟨g, 0, none⟩) S S, .int .i64 n] 67 (0, 0))
  rows : RowsAt w g S O (rowOf seed S L) vs
  ownb : O b
  gb : g ≠ b
  vb : ∀ (i : Nat) (u : Value), vs[i]? = some u → u.ownBlock ≠ some b
  lt : ∀ k, O k → k < w.heap.size
  seed_lt : seed < 4294967296
  pos : 0 < S

/-- What was there is as it was but for the blocks of O; what is owned now was owned, or is new. -/
def Grew (O : Nat → Prop) (w : World) (O' : Nat → Prop) (w' : World) : Prop := Kept O w w' ∧ ∀ k, O' k → O k ∨ w.heap.size ≤ k
theorem Grew.refl (O : Nat → Prop) (w : World) : Grew O w O w := ⟨Kept.refl _ _, fun _ h => .inl h⟩
theorem Grew.trans {O₁ O₂ O₃ : Nat → Prop} {a b c : World} (h : Grew O₁ a O₂ b) (k : Grew O₂ b O₃ c) : Grew O₁ a O₃ c :=
  ⟨h.1.trans k.1 (fun i hi hs => (h.2 i hs).elim id (fun e => by omega)), fun i hi => (k.2 i hi).elim (h.2 i) (fun e => .inr (Nat.le_trans h.1.size e))⟩
theorem Grew.kept {O O' : Nat → Prop} {a b c : World} (h : Grew O a O' b) (k : Kept (fun _ => False) b c) : Grew O a O' c :=
  ⟨h.1.trans k (fun _ _ h => h.elim), h.2⟩
theorem Grew.of_kept {O : Nat → Prop} {a b : World} (k : Kept (fun _ => False) a b) : Grew O a O b := ⟨k.mono (fun _ _ h => h.elim), fun _ h => .inl h⟩

theorem RowsAt.kept {w w' : World} {g S : Nat} {O T : Nat → Prop} {rows : Nat → List It} {vs : List Value} (h : RowsAt w g S O rows vs) (hk : Kept T w w') (hd : ∀ k, O k → ¬ T k) : RowsAt w' g S O rows vs :=
  ⟨(hk.block g (lt_of_block h.blk) (hd g h.own)).trans h.blk, h.len, h.own, fun i u hu => (h.row i u hu).kept hk (fun k hv => hd k (h.mine i u k hu hv).1), h.mine, h.apart⟩
theorem TabAt.kept {w w' : World} {b : Nat} {O T : Nat → Prop} {seed : Nat} {n : Int} {S : Nat} {sema : Value} {g : Nat} {vs : List Value} {L : List It} (h : TabAt w b O seed n S sema g vs L) (hk : Kept T w w') (hd : ∀ k, O k → ¬ T k) :
    TabAt w' b O seed n S sema g vs L :=
  ⟨(hk.block b (lt_of_block h.blk) (hd b h.ownb)).trans h.blk, h.rows.kept hk hd, h.ownb, h.gb, h.vb, fun k hO => Nat.lt_of_lt_of_le (h.lt k hO) hk.size, h.seed_lt, h.pos⟩
theorem TabAt.kept0 {w w' : World} {b : Nat} {O : Nat → Prop} {seed : Nat} {n : Int} {S : Nat} {sema : Value} {g : Nat} {vs : List Value} {L : List It} (h : TabAt w b O seed n S sema g vs L) (hk : Kept (fun _ => False) w w') :
    TabAt w' b O seed n S sema g vs L := h.kept hk (fun _ _ h => h)

/-- A table, its slots made or not. -/
def Tab0 (w : World) (b : Nat) (O : Nat → Prop) (seed : Nat) (n : Int) (S : Nat) (L : List It) : Prop :=
  (∃ sema g vs, TabAt w b O seed n S sema g vs L) ∨
  (S = 8 ∧ n = 0 ∧ L = [] ∧ seed < 4294967296 ∧ O = (fun k => k = b) ∧ ∃ sema, w.heap[b]? = some (.cells #[.int .u32 (seed : Int), .int .u32 0, .int .i32 0, sema, .slice none 0 0, .int .i64 0] 67 (0, 0)))
theorem Tab0.kept {w w' : World} {b : Nat} {O T : Nat → Prop} {seed : Nat} {n : Int} {S : Nat} {L : List It} (h : Tab0 w b O seed n S L) (hk : Kept T w w') (hd : ∀ k, O k → ¬ T k) : Tab0 w' b O seed n S L := by
  rcases h with ⟨sema, g, vs, h⟩ | ⟨h1, h2, h3, h4, h5, sema, h6⟩
  · exact .inl ⟨sema, g, vs, h.kept hk hd⟩
  · exact .inr ⟨h1, h2, h3, h4, h5, sema, (hk.block b (lt_of_block h6) (hd b (by rw [h5]))).trans h6⟩
theorem Tab0.lt {w : World} {b : Nat} {O : Nat → Prop} {seed : Nat} {n : Int} {S : Nat} {L : List It} (h : Tab0 w b O seed n S L) : ∀ k, O k → k < w.heap.size := by
  rcases h with ⟨sema, g, vs, h⟩ | ⟨h1, h2, h3, h4, h5, sema, h6⟩
  · exact h.lt
  · intro k hk
    rw [h5] at hk
    subst hk
    exact lt_of_block h6
theorem Tab0.seed_lt {w : World} {b : Nat} {O : Nat → Prop} {seed : Nat} {n : Int} {S : Nat} {L : List It} (h : Tab0 w b O seed n S L) : seed < 4294967296 := by
  rcases h with ⟨sema, g, vs, h⟩ | ⟨h1, h2, h3, h4, h5, sema, h6⟩
  · exact h.seed_lt
  · exact h4

theorem tab_made {w w' : World} {b seed : Nat} {sema : Value} (hs : seed < 4294967296) (hb : b < w.heap.size) (h : MadeFirst w w' b (.int .u32 (seed : Int)) sema (.int .i64 0)) :
    ∃ O' g vs, TabAt w' b O' seed 0 8 sema g vs [] ∧ Grew (fun k => k = b) w O' w' := by
  obtain ⟨g, h1, h2, h3, h4⟩ := h
  refine ⟨fun k => k = b ∨ k = g, g, List.replicate 8 (.slice none 0 0), ⟨h1, ⟨h2, by simp, .inr rfl, ?_, ?_, ?_⟩, .inl rfl, by omega, ?_, ?_, hs, by omega⟩, h4, ?_⟩
  · intro i u hu
    obtain rfl : u = .slice none 0 0 := by
      rw [List.getElem?_replicate] at hu
      split at hu <;> simp_all
    exact Sl.nil _ _ _
  · intro i u k hu hk
    obtain rfl : u = .slice none 0 0 := by
      rw [List.getElem?_replicate] at hu
      split at hu <;> simp_all
    simp [Value.ownBlock] at hk
  · intro i j u u' k hu hu' hk
    obtain rfl : u = .slice none 0 0 := by
      rw [List.getElem?_replicate] at hu
      split at hu <;> simp_all
    simp [Value.ownBlock] at hk
  · intro i u hu
    obtain rfl : u = .slice none 0 0 := by
      rw [List.getElem?_replicate] at hu
      split at hu <;> simp_all
    simp [Value.ownBlock]
  · intro k hk
    rcases hk with rfl | rfl
    · exact lt_of_block h1
    · exact lt_of_block h2
  · intro k hk
    exact hk.imp id (fun e => by omega)

theorem made_any (b : Nat) (O : Nat → Prop) (seed : Nat) (n : Int) (S : Nat) (L : List It) (w : World) (h : Tab0 w b O seed n S L) :
    Calls Tryz.prog 21 #[.pointer (some ⟨b, 0, none⟩)] w fun e w' => e = .returned (.tuple #[]) ∧ ∃ O' sema g vs, TabAt w' b O' seed n S sema g vs L ∧ Grew O w O' w' := by
  rcases h with ⟨sema, g, vs, h⟩ | ⟨rfl, rfl, rfl, h4, rfl, sema, h6⟩
  · refine (made_again b w (by simpa using cell_at h.blk 1)).mono ?_
    rintro e w' ⟨rfl, hk⟩
    exact ⟨rfl, O, sema, g, vs, h.kept0 hk, .of_kept hk⟩
  · refine (made_first b _ _ _ _ w h6).mono ?_
    rintro e w' ⟨rfl, hm⟩
    obtain ⟨O', g, vs, h1, h2⟩ := tab_made h4 (lt_of_block h6) hm
    exact ⟨rfl, O', sema, g, vs, h1, h2⟩

/-- The place of a key: its slot, and where in its row. -/
def Placed (w : World) (b : Nat) (O : Nat → Prop) (seed : Nat) (n : Int) (S : Nat) (L : List It) (key : ByteArray) (e : Ending) (w' : World) : Prop :=
  ∃ r O' sema g vs, e = .returned (.tuple #[.int .i64 (slotOf seed S key : Nat), .int .i64 r]) ∧ Found key (rowOf seed S L (slotOf seed S key)) r ∧ TabAt w' b O' seed n S sema g vs L ∧ Grew O w O' w'

theorem place_any (b : Nat) (O : Nat → Prop) (seed : Nat) (n : Int) (S : Nat) (L : List It) (key : ByteArray) (w : World) (h : Tab0 w b O seed n S L) (hS : S ≤ 1000000) (hL : L.length ≤ 1000000) (hkey : key.size ≤ 1000000000) :
    Calls Tryz.prog 16 #[.pointer (some ⟨b, 0, none⟩), .string key] w (Placed w b O seed n S L key) := by
  have hmf : ∀ (fn : Fn) (first cap : Array Value) (w : World), (Instr.makeFunc fn first cap).run Tryz.prog w = .ok (.func fn first cap) w := fun _ _ _ _ => rfl
  have hbox := cell_at (heap_alloc_new w (.cells #[.string key] 9)) 0
  have hkb : Kept (fun _ => False) w (w.alloc (.cells #[.string key] 9)) := (Kept.refl _ w).alloc _
  have hT := h.kept hkb (fun _ _ h => h)
  have hpl : ¬ O w.heap.size := fun hh => by have := h.lt _ hh; omega
  obtain ⟨pl, hpl0⟩ : ∃ pl, pl = w.heap.size := ⟨_, rfl⟩
  rw [← hpl0] at hbox hpl
  simp at hbox
  have HP := Lib.hid hpl0
  clear h
  go_enter Tryz.func16, Tryz.ntmps16
  go_wp2_with fail
  rw [← hpl0]
  clear hpl0
  refine (made_any b O seed n S L _ hT).mono ?_
  rintro e w1 ⟨rfl, O1, sema, g, vs, h1, h2⟩
  have hseed := h1.seed_lt
  have hpos := h1.pos
  have k0 := cell_at h1.blk 0
  have k4 := cell_at h1.blk 4
  simp at k0 k4
  have p1 : w1.cell? ⟨pl, 0, none⟩ = some (.string key) := (h2.1.cell (by simp [HP.out]) hpl).trans hbox
  have hh := hashN_lt key seed hseed
  have htm : (hashN key seed : Int).tmod (S : Int) = (slotOf seed S key : Nat) := by unfold slotOf; rw [Int.tmod_eq_emod_of_nonneg (by omega)]; rfl
  have hslt := slotOf_lt (seed := seed) key hpos
  obtain ⟨u, hu⟩ : ∃ u, vs[slotOf seed S key]? = some u := ⟨_, List.getElem?_eq_getElem (by rw [h1.rows.len]; exact hslt)⟩
  have hsl := h1.rows.row _ _ hu
  have hlen := row_length_le L seed S (slotOf seed S key)
  have ug : w1.cell? ⟨g, slotOf seed S key, none⟩ = some u := by rw [cell_at h1.rows.blk]; simpa using hu
  have fin : ∀ r w2, Found key (rowOf seed S L (slotOf seed S key)) r → Kept (fun _ => False) w1 w2 → Placed w b O seed n S L key (.returned (.tuple #[.int .i64 (slotOf seed S key : Nat), .int .i64 r])) w2 :=
    fun r w2 hf hk => ⟨r, O1, sema, g, vs, rfl, hf, h1.kept0 hk, ((Grew.of_kept hkb).trans h2).kept hk⟩
  have FIN := Lib.hid fin
  clear fin
  generalize rowOf seed S L (slotOf seed S key) = rw_ at *
  have HH := Lib.hid (fun w' => hash_any key seed w' hseed hkey)
  clear hu h1 h2 hT hkb hbox hpl
  generalize slotOf seed S key = s at *
  generalize hashN key seed = hv at *
  have hS0 : ¬ (S : Int) = 0 := by omega
  go_wp2_with fail
  go_quiet ((go_at_call 11; exact Calls.quiet_of_same ((HH.out _).mono fun _ _ h => ⟨h.1, h.2.symm⟩)))
  have hs63 : (s : Int) ≤ 9223372036854775807 := by omega
  go_wp2_with fail
  refine (index_key u rw_ pl key _ (Rd.of_sl (w := w1.drewN nq) hsl) (by omega) p1).mono ?_
  rintro e w2 ⟨⟨r, rfl, hf⟩, hk⟩
  go_wp2_with fail
  go_ret2
  have hk' : Kept (fun _ => False) w1 w2 := ((Kept.refl _ w1).drewN nq).trans hk (fun _ _ h => h)
  exact FIN.out r _ hf hk'
end Go.Proofs.YthdondhpgmjmpaaGreat
