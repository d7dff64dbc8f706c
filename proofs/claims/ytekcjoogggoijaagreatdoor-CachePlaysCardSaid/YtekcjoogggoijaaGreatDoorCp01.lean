/-
  Plain laws on worlds, over whatever program: what a step leaves alone ('Kept'), a slice of whatever elements at whatever place of its row ('Sl'), append onto such a slice.
-/
import Derived.WalkKit
import Derived.Lib.Hide
import Derived.Deep.Draws
import Derived.Deep.RegionWith
set_option linter.unusedVariables false
set_option linter.unusedSimpArgs false
set_option linter.unnecessarySimpa false
namespace Go.Proofs.YtekcjoogggoijaaGreatDoor
open Go.RowKit

/-- What was there is as it was, but for the blocks of S; new blocks may have come. -/
structure Kept (S : Nat → Prop) (w w' : World) : Prop where
  os : w'.os = w.os
  tape : w'.tape = w.tape
  output : w'.output = w.output
  size : w.heap.size ≤ w'.heap.size
  block : ∀ k, k < w.heap.size → ¬ S k → w'.heap[k]? = w.heap[k]?

theorem Kept.refl (S : Nat → Prop) (w : World) : Kept S w w := ⟨rfl, rfl, rfl, Nat.le_refl _, fun _ _ _ => rfl⟩
theorem Kept.trans {S T : Nat → Prop} {a b c : World} (h : Kept S a b) (k : Kept T b c) (hT : ∀ i, i < a.heap.size → T i → S i) : Kept S a c :=
  ⟨k.os.trans h.os, k.tape.trans h.tape, k.output.trans h.output, Nat.le_trans h.size k.size,
    fun i hi hs => (k.block i (Nat.lt_of_lt_of_le hi h.size) (fun ht => hs (hT i hi ht))).trans (h.block i hi hs)⟩
theorem Kept.mono {S T : Nat → Prop} {a b : World} (h : Kept S a b) (hT : ∀ i, i < a.heap.size → S i → T i) : Kept T a b :=
  ⟨h.os, h.tape, h.output, h.size, fun i hi ht => h.block i hi (fun hs => ht (hT i hi hs))⟩
theorem Kept.alloc {S : Nat → Prop} {a w : World} (h : Kept S a w) (o : Obj) : Kept S a (w.alloc o) :=
  ⟨h.os, h.tape, h.output, by simp; have := h.size; omega, fun i hi hs => (Below.heap_alloc _ _ _ (Nat.lt_of_lt_of_le hi h.size)).trans (h.block i hi hs)⟩
theorem Kept.drew {S : Nat → Prop} {a w : World} (h : Kept S a w) : Kept S a w.drew := ⟨h.os, h.tape, h.output, h.size, h.block⟩
theorem Kept.drewN {S : Nat → Prop} {a w : World} (h : Kept S a w) (n : Nat) : Kept S a (w.drewN n) := ⟨h.os, h.tape, h.output, h.size, h.block⟩
theorem Kept.setCell {S : Nat → Prop} {a w : World} (h : Kept S a w) {p : Addr} (hp : p.block < a.heap.size → S p.block) (u : Value) : Kept S a (w.setCell p u) :=
  ⟨h.os, h.tape, h.output, by simp [World.setCell]; exact h.size, fun i hi hs => (Below.heap_setCell _ _ _ _ (fun e => hs (by rw [e]; exact hp (by rw [← e]; exact hi)))).trans (h.block i hi hs)⟩
theorem Kept.grown {S : Nat → Prop} {a w w' : World} {row : Option Nat} (h : Kept S a w) (hg : w.grownBy w' row) (hr : ∀ k, row = some k → k < a.heap.size → S k) : Kept S a w' :=
  ⟨hg.os.trans h.os, hg.tape.trans h.tape, hg.output.trans h.output, Nat.le_trans h.size hg.size,
    fun i hi hs => (hg.block i (Nat.lt_of_lt_of_le hi h.size) (fun e => hs (hr i e.symm hi))).trans (h.block i hi hs)⟩
theorem Kept.of_below {S : Nat → Prop} {a w : World} (h : Below a.heap.size a w) : Kept S a w := ⟨h.os, h.tape, h.output, h.size, fun i hi _ => h.block i hi⟩
/-- Where S has no old block: all that was there is as it was. -/
theorem Kept.below {S : Nat → Prop} {a w : World} (h : Kept S a w) (hS : ∀ k, k < a.heap.size → ¬ S k) : Below a.heap.size a w :=
  ⟨h.os, h.tape, h.output, h.size, fun i hi => h.block i hi (hS i hi)⟩
theorem Kept.cell {S : Nat → Prop} {a w : World} (h : Kept S a w) {p : Addr} (hp : p.block < a.heap.size) (hs : ¬ S p.block) : w.cell? p = a.cell? p :=
  World.cell?_of_block (w := a) (h.block p.block hp hs)

theorem Kept.cell0 {a w : World} (h : Kept (fun _ => False) a w) {p : Addr} {v : Value} (hc : a.cell? p = some v) : w.cell? p = some v :=
  (h.cell (World.block_lt_of_cell? a p hc) (fun h => h)).trans hc

/-- The cell at a place of a block that is known whole. -/
theorem cell_at {w : World} {b : Nat} {c : Array Value} {T : TypeId} {f : Nat × Nat} (h : w.heap[b]? = some (.cells c T f)) (o : Nat) : w.cell? ⟨b, o, none⟩ = c[o]? := by
  simp [World.cell?, h]
theorem frozen_at {w : World} {b : Nat} {c : Array Value} {T : TypeId} (h : w.heap[b]? = some (.cells c T (0, 0))) (o : Nat) : w.frozen? ⟨b, o, none⟩ = false := by
  simp [World.frozen?, h]
theorem lt_of_block {w : World} {b : Nat} {o : Obj} (h : w.heap[b]? = some o) : b < w.heap.size := (Array.getElem?_eq_some_iff.1 h).1
theorem setCell_block {w : World} {b : Nat} {c : Array Value} {T : TypeId} {f : Nat × Nat} (h : w.heap[b]? = some (.cells c T f)) (o : Nat) (v : Value) :
    (w.setCell ⟨b, o, none⟩ v).heap[b]? = some (.cells (c.setIfInBounds o v) T f) := by
  simp [World.setCell, Array.getElem?_modify, h]

/-- The slice value v holds the cells xs (n elements of 'size' cells each, of type E): nil, or a stretch of a row no cell of which is frozen. -/
def Sl (w : World) (E : TypeId) (size n : Nat) (v : Value) (xs : List Value) : Prop :=
  xs.length = n * size ∧
  ((v = .slice none 0 0 ∧ n = 0) ∨
   ∃ g off cap cur, v = .slice (some ⟨g, off, none⟩) n cap ∧ w.heap[g]? = some (.cells cur E (0, 0)) ∧ n ≤ cap ∧ cap ≤ maxLen ∧ off + cap * size ≤ cur.size ∧ (cur.toList.drop off).take (n * size) = xs)

section
variable {w w' : World} {E : TypeId} {size n : Nat} {v : Value} {xs : List Value}
theorem Sl.nil (w : World) (E : TypeId) (size : Nat) : Sl w E size 0 (.slice none 0 0) [] := ⟨by simp, .inl ⟨rfl, rfl⟩⟩
theorem Sl.lt (h : Sl w E size n v xs) {k : Nat} (hk : v.ownBlock = some k) : k < w.heap.size := by
  rcases h.2 with ⟨rfl, _⟩ | ⟨g, off, cap, cur, rfl, hg, _⟩
  · simp [Value.ownBlock] at hk
  · simp [Value.ownBlock] at hk
    subst hk
    exact lt_of_block hg
/-- A world in which the slice's row is as it was. -/
theorem Sl.same (h : Sl w E size n v xs) (hb : ∀ k, v.ownBlock = some k → w'.heap[k]? = w.heap[k]?) : Sl w' E size n v xs := by
  refine ⟨h.1, ?_⟩
  rcases h.2 with hn | ⟨g, off, cap, cur, rfl, hg, r⟩
  · exact .inl hn
  · exact .inr ⟨g, off, cap, cur, rfl, (hb g rfl).trans hg, r⟩
theorem Sl.kept {S : Nat → Prop} (h : Sl w E size n v xs) (hk : Kept S w w') (hs : ∀ k, v.ownBlock = some k → ¬ S k) : Sl w' E size n v xs :=
  h.same fun k hv => hk.block k (h.lt hv) (hs k hv)
theorem Sl.alloc (h : Sl w E size n v xs) (o : Obj) : Sl (w.alloc o) E size n v xs := h.same fun _ hv => Below.heap_alloc _ _ _ (h.lt hv)
theorem Sl.setOther (h : Sl w E size n v xs) {b : Nat} (hb : v.ownBlock ≠ some b) (o : Nat) (u : Value) : Sl (w.setCell ⟨b, o, none⟩ u) E size n v xs :=
  h.same fun _ hv => Below.heap_setCell _ _ _ _ (fun e => hb (hv.trans (congrArg some e)))
theorem Sl.drew (h : Sl w E size n v xs) : Sl w.drew E size n v xs := h
theorem Sl.cell (h : Sl w E size n v xs) {a : Addr} {m c : Nat} (hv : v = .slice (some a) m c) : ∀ j u, xs[j]? = some u → w.cell? (a.add j) = some u := by
  intro j u hu
  rcases h.2 with ⟨rfl, _⟩ | ⟨g, off, cap, cur, rfl, hg, _, _, _, ht⟩
  · cases hv
  · obtain ⟨rfl, _, _⟩ : (⟨g, off, none⟩ : Addr) = a ∧ n = m ∧ cap = c := by injection hv with h1 h2 h3; injection h1 with h1; exact ⟨h1, h2, h3⟩
    have hadd : (⟨g, off, none⟩ : Addr).add j = ⟨g, off + j, none⟩ := by unfold Addr.add; split <;> simp_all
    rw [hadd, cell_at hg]
    rw [← ht, List.getElem?_take] at hu
    split at hu
    · simpa using hu
    · cases hu
theorem Sl.of_owns {base : Nat} (h : w.ownsRow base E size v n xs) : Sl w E size n v xs := by
  refine ⟨h.1, ?_⟩
  rcases h.2 with hn | ⟨g, cap, cur, hv, _, hg, hn, hm, hs, ht⟩
  · exact .inl hn
  · exact .inr ⟨g, 0, cap, cur, hv, hg, hn, hm, by omega, by simpa using ht⟩
/-- A slice's parts, written out. -/
theorem Sl.form (h : Sl w E size n v xs) : (v = .slice none 0 0 ∧ n = 0 ∧ xs = []) ∨
    ∃ g off cap, v = .slice (some ⟨g, off, none⟩) n cap ∧ n ≤ cap ∧ g < w.heap.size := by
  rcases h.2 with ⟨rfl, rfl⟩ | ⟨g, off, cap, cur, rfl, hg, hn, _⟩
  · exact .inl ⟨rfl, rfl, List.eq_nil_of_length_eq_zero (by simpa using h.1)⟩
  · exact .inr ⟨g, off, cap, rfl, hn, lt_of_block hg⟩
theorem Sl.le_cap {a : Addr} {m c : Nat} (h : Sl w E size n (.slice (some a) m c) xs) : n ≤ c := by
  rcases h.2 with ⟨hv, _⟩ | ⟨g, off, cap, cur, hv, hg, hn, _⟩
  · cases hv
  · injection hv with _ _ h3
    exact h3 ▸ hn
/-- A stretch of it. -/
theorem Sl.cut (h : Sl w E size n v xs) {g off cap : Nat} (hv : v = .slice (some ⟨g, off, none⟩) n cap) (lo hi : Nat) (hlo : lo ≤ hi) (hhi : hi ≤ n) :
    Sl w E size (hi - lo) (.slice (some ⟨g, off + lo * size, none⟩) (hi - lo) (cap - lo)) ((xs.drop (lo * size)).take ((hi - lo) * size)) := by
  rcases h.2 with ⟨rfl, _⟩ | ⟨g', off', cap', cur, rfl, hg, hn, hm, hs, ht⟩
  · cases hv
  · obtain ⟨h1, rfl⟩ : (⟨g', off', none⟩ : Addr) = ⟨g, off, none⟩ ∧ cap' = cap := by injection hv with h1 h2 h3; injection h1 with h1; exact ⟨h1, h3⟩
    obtain ⟨rfl, rfl⟩ : g' = g ∧ off' = off := by injection h1 with h1 h2; exact ⟨h1, h2⟩
    have e1 : (hi - lo) * size + lo * size ≤ n * size := by rw [← Nat.add_mul]; exact Nat.mul_le_mul_right _ (by omega)
    refine ⟨?_, .inr ⟨g', _, _, cur, rfl, hg, by omega, by omega, ?_, ?_⟩⟩
    · rw [List.length_take, List.length_drop, h.1]; omega
    · have : (cap' - lo) * size + lo * size = cap' * size := by rw [← Nat.add_mul]; congr 1; omega
      omega
    · rw [← ht, List.drop_take, List.drop_drop, List.take_take]
      congr 1
      omega
end

/-- 'T{}' of a slice type: a new row of no cells. -/
theorem Sl.empty_new (w : World) (E : TypeId) (size : Nat) : Sl (w.alloc (.cells #[] E)) E size 0 (.slice (some ⟨w.heap.size, 0, none⟩) 0 0) [] :=
  ⟨by simp, .inr ⟨w.heap.size, 0, 0, #[], rfl, heap_alloc_new w _, Nat.le_refl _, Nat.zero_le _, by simp, by simp⟩⟩
theorem cell_alloc_lt {w : World} {o : Obj} {p : Addr} (h : p.block < w.heap.size) : (w.alloc o).cell? p = w.cell? p := World.cell?_of_block (w := w) (Below.heap_alloc w o _ h)

theorem setCells_block {b : Nat} {T : TypeId} {f : Nat × Nat} : ∀ (vs : List Value) (o : Nat) (w : World) (c : Array Value), w.heap[b]? = some (.cells c T f) → o + vs.length ≤ c.size →
    ∃ c', (w.setCells b o vs).heap[b]? = some (.cells c' T f) ∧ c'.size = c.size ∧ c'.toList = c.toList.take o ++ vs ++ c.toList.drop (o + vs.length)
  | [], o, w, c, h, hl => ⟨c, h, rfl, by simp⟩
  | v :: r, o, w, c, h, hl => by
    have h1 := setCell_block h o v
    obtain ⟨c', e1, e2, e3⟩ := setCells_block r (o + 1) _ _ h1 (by simp at hl ⊢; omega)
    refine ⟨c', e1, by simpa using e2, ?_⟩
    rw [e3]
    simp only [List.length_cons] at hl
    have ho : o < c.toList.length := by simp; omega
    simp only [Array.toList_setIfInBounds, List.length_cons]
    rw [List.set_eq_take_append_cons_drop, if_pos ho]
    have ht : (c.toList.take o).length = o := by simp; omega
    rw [List.take_append, ht, show o + 1 - o = 1 by omega, List.take_of_length_le (by omega), List.drop_append, ht]
    rw [List.drop_eq_nil_of_le (as := c.toList.take o) (by omega), show o + 1 + r.length - o = r.length + 1 by omega, List.drop_succ_cons, List.drop_drop]
    simp [Nat.add_comm, Nat.add_left_comm]

theorem setCells_other (b : Nat) : ∀ (vs : List Value) (o : Nat) (w : World) (k : Nat), k ≠ b → (w.setCells b o vs).heap[k]? = w.heap[k]?
  | [], _, _, _, _ => rfl
  | v :: r, o, w, k, h => by rw [World.setCells, setCells_other b r _ _ k h, Below.heap_setCell _ _ _ _ h]
theorem setCells_facts (b : Nat) : ∀ (vs : List Value) (o : Nat) (w : World), (w.setCells b o vs).heap.size = w.heap.size ∧ (w.setCells b o vs).os = w.os ∧ (w.setCells b o vs).tape = w.tape ∧ (w.setCells b o vs).output = w.output
  | [], _, _ => ⟨rfl, rfl, rfl, rfl⟩
  | v :: r, o, w => by
    obtain ⟨h1, h2, h3, h4⟩ := setCells_facts b r (o + 1) (w.setCell ⟨b, o, none⟩ v)
    exact ⟨h1.trans (by simp [World.setCell]), h2, h3, h4⟩

/-- append of m elements (m not 0) onto a slice, whatever place of its row it begins at: what it holds then; nothing else has turned but, where there was room, the slice's own row. -/
theorem run_append_sl {P : Program} (w : World) (t ty : TypeId) (e : TypeId) (i : TypeInfo) (z : Value) (size bytes : Nat) (h1 : P.underlying t = some (.slice e)) (h2 : P.info? e = some i) (h3 : i.zero = some z) (h4 : i.size = size) (h5 : i.bytes = bytes) (h6 : z.cells.size = size) (h7 : 0 < size)
    (v : Value) (n : Nat) (olds : List Value) (hsl : Sl w e size n v olds)
    (ad : Addr) (m c : Nat) (news : List Value) (hn : news.length = m * size) (hc : ∀ j u, news[j]? = some u → w.cell? (ad.add j) = some u) (h1c : ∀ u ∈ news, u.oneCell' = true)
    (hm : 0 < m) (b1 : n + m ≤ maxLen) (b2 : (n + m) * bytes ≤ 140737488355328) :
    ∃ g off cap w', (Builtin.append_ #[t, t] ty #[v, .slice (some ad) m c]).run P w = .ok (.slice (some ⟨g, off, none⟩) (n + m) cap) w' ∧ Sl w' e size (n + m) (.slice (some ⟨g, off, none⟩) (n + m) cap) (olds ++ news) ∧
      Kept (fun k => v.ownBlock = some k) w w' ∧ (v.ownBlock = some g ∨ w.heap.size ≤ g) := by
  have fresh : ∀ v' w', (Builtin.append_ #[t, t] ty #[v, .slice (some ad) m c]).run P w = .ok v' w' → w'.ownsRow w.heap.size e size v' (n + m) (olds ++ news) → w.grownBy w' none →
      ∃ g off cap w', (Builtin.append_ #[t, t] ty #[v, .slice (some ad) m c]).run P w = .ok (.slice (some ⟨g, off, none⟩) (n + m) cap) w' ∧ Sl w' e size (n + m) (.slice (some ⟨g, off, none⟩) (n + m) cap) (olds ++ news) ∧
        Kept (fun k => v.ownBlock = some k) w w' ∧ (v.ownBlock = some g ∨ w.heap.size ≤ g) := by
    intro v' w' hrun hown hgr
    rcases hown.2 with ⟨_, h⟩ | ⟨g, cap, cur, rfl, hb, _⟩
    · omega
    · exact ⟨g, 0, cap, w', hrun, Sl.of_owns hown, ⟨hgr.os, hgr.tape, hgr.output, hgr.size, fun k hk _ => hgr.block k hk (by simp)⟩, .inr hb⟩
  rcases hsl.2 with ⟨rfl, rfl⟩ | ⟨g, off, cap, cur, rfl, hb, hnc, hcm, hfit, ht⟩
  · obtain rfl : olds = [] := List.eq_nil_of_length_eq_zero (by simpa using hsl.1)
    obtain ⟨v', w', hrun, r1, r2, _⟩ := run_append_own (P := P) w w.heap.size t ty e i z size bytes h1 h2 h3 h4 h5 h6 h7 (.slice none 0 0) 0 [] (World.ownsRow_nil w _ e size) ad m c news hn hc h1c b1 b2 (Nat.le_refl _)
    exact fresh v' w' hrun r1 r2
  · have holds : ∀ j u, olds[j]? = some u → w.cell? ((⟨g, off, none⟩ : Addr).add j) = some u := hsl.cell rfl
    by_cases hr : n + m ≤ cap
    · have hfits : off + n * size + news.length ≤ cur.size := by
        have : (n + m) * size ≤ cap * size := Nat.mul_le_mul_right _ hr
        rw [Nat.add_mul] at this
        omega
      subst h4
      have hrun := run_append_room_cells (P := P) w t ty e i h1 h2 g off n cap ad m c news hn hc h1c hr (fun j hj => by rw [cell_at hb, Array.getElem?_eq_getElem (by omega)]; rfl) (fun j hj => frozen_at hb _)
      obtain ⟨c', e1, e2, e3⟩ := setCells_block news (off + n * i.size) w cur hb hfits
      obtain ⟨f1, f2, f3, f4⟩ := setCells_facts g news (off + n * i.size) w
      refine ⟨g, off, cap, _, hrun, ⟨by rw [List.length_append, hsl.1, hn, Nat.add_mul], .inr ⟨g, off, cap, c', rfl, e1, hr, hcm, by omega, ?_⟩⟩, ⟨f2, f3, f4, by omega, fun k hk hne => setCells_other g _ _ _ _ (fun hh => hne (by simp [Value.ownBlock, hh]))⟩, .inl rfl⟩
      have hol : olds.length = n * i.size := hsl.1
      have hcl : off + n * i.size ≤ cur.toList.length := by simp; omega
      rw [e3, Nat.add_mul, ← hn, ← hol]
      have hd : (cur.toList.take (off + olds.length)).drop off = olds := by rw [List.drop_take, show off + olds.length - off = olds.length by omega, hol]; exact ht
      have hlt : (cur.toList.take (off + olds.length)).length = off + olds.length := by rw [List.length_take]; omega
      rw [List.append_assoc, List.drop_append, hd, hlt, show off - (off + olds.length) = 0 by omega, List.drop_zero, ← List.append_assoc, List.take_left' (by simp)]
    · obtain ⟨v', w', hrun, r1, r2⟩ := run_append_arg_grows (P := P) w t ty e i z size bytes h1 h2 h3 h4 h5 h6 h7 ⟨g, off, none⟩ n cap olds hsl.1 holds ad m c news hn hc (by omega) b1 b2
      exact fresh v' w' hrun r1 r2

section
variable {P : Program} {ops : Array Oper} {rest : List Oper} {o : Oper} {a : Act} {Q : Exit → Act → World → Prop} {K : Act → World → Prop}
/-- The same for the walk's next operation. -/
theorem wp_append_sl (w : World) (s x : Operand) (t : TypeId) (hop : o.op = Op.call { callee := Callee.builtin Builtin.append, args := #[s, x], argTypes := #[t, t] })
    (e : TypeId) (i : TypeInfo) (z : Value) (size bytes : Nat) (h1 : P.underlying t = some (.slice e)) (h2 : P.info? e = some i) (h3 : i.zero = some z) (h4 : i.size = size) (h5 : i.bytes = bytes) (h6 : z.cells.size = size) (h7 : 0 < size)
    (v : Value) (n : Nat) (olds : List Value) (hs : a.eval s = v) (hsl : Sl w e size n v olds)
    (ad : Addr) (m c : Nat) (news : List Value) (hx : a.eval x = .slice (some ad) m c) (hn : news.length = m * size) (hc : ∀ j u, news[j]? = some u → w.cell? (ad.add j) = some u) (h1c : ∀ u ∈ news, u.oneCell' = true)
    (hm : 0 < m) (b1 : n + m ≤ maxLen) (b2 : (n + m) * bytes ≤ 140737488355328)
    (hK : ∀ g off cap w', Sl w' e size (n + m) (.slice (some ⟨g, off, none⟩) (n + m) cap) (olds ++ news) → Kept (fun k => v.ownBlock = some k) w w' → (v.ownBlock = some g ∨ w.heap.size ≤ g) →
      K (a.put o.dst (.slice (some ⟨g, off, none⟩) (n + m) cap)) w') : o.wp P a w K Q := by
  obtain ⟨g, off, cap, w', hrun, r1, r2, r3⟩ := run_append_sl (P := P) w t o.type e i z size bytes h1 h2 h3 h4 h5 h6 h7 v n olds hsl ad m c news hn hc h1c hm b1 b2
  unfold Oper.wp
  simp [execOp, hop, resolve, invoke, builtin, hs, hx, hrun, Result.andThen]
  exact hK g off cap w' r1 r2 r3
theorem wpList_append_sl (w : World) (hg : o.guard = none) (s x : Operand) (t : TypeId) (hop : o.op = Op.call { callee := Callee.builtin Builtin.append, args := #[s, x], argTypes := #[t, t] })
    (e : TypeId) (i : TypeInfo) (z : Value) (size bytes : Nat) (h1 : P.underlying t = some (.slice e)) (h2 : P.info? e = some i) (h3 : i.zero = some z) (h4 : i.size = size) (h5 : i.bytes = bytes) (h6 : z.cells.size = size) (h7 : 0 < size)
    (v : Value) (n : Nat) (olds : List Value) (hs : a.eval s = v) (hsl : Sl w e size n v olds)
    (ad : Addr) (m c : Nat) (news : List Value) (hx : a.eval x = .slice (some ad) m c) (hn : news.length = m * size) (hc : ∀ j u, news[j]? = some u → w.cell? (ad.add j) = some u) (h1c : ∀ u ∈ news, u.oneCell' = true)
    (hm : 0 < m) (b1 : n + m ≤ maxLen) (b2 : (n + m) * bytes ≤ 140737488355328)
    (hK : ∀ g off cap w', Sl w' e size (n + m) (.slice (some ⟨g, off, none⟩) (n + m) cap) (olds ++ news) → Kept (fun k => v.ownBlock = some k) w w' → (v.ownBlock = some g ∨ w.heap.size ≤ g) →
      wpList P ops Q rest (a.put o.dst (.slice (some ⟨g, off, none⟩) (n + m) cap)) w') : wpList P ops Q (o :: rest) a w :=
  wpList_plain hg fun _ hK' => wp_append_sl w s x t hop e i z size bytes h1 h2 h3 h4 h5 h6 h7 v n olds hs hsl ad m c news hx hn hc h1c hm b1 b2 (fun g off cap w' a1 a2 a3 => hK' _ _ (hK g off cap w' a1 a2 a3))
/-- The same as one step of a region that draws. -/
theorem step_append_sl (w : World) {E : Prop} (hg : o.guard = none) (s x : Operand) (t : TypeId) (hop : o.op = Op.call { callee := Callee.builtin Builtin.append, args := #[s, x], argTypes := #[t, t] })
    (e : TypeId) (i : TypeInfo) (z : Value) (size bytes : Nat) (h1 : P.underlying t = some (.slice e)) (h2 : P.info? e = some i) (h3 : i.zero = some z) (h4 : i.size = size) (h5 : i.bytes = bytes) (h6 : z.cells.size = size) (h7 : 0 < size)
    (v : Value) (n : Nat) (olds : List Value) (hs : a.eval s = v) (hsl : Sl w e size n v olds)
    (ad : Addr) (m c : Nat) (news : List Value) (hx : a.eval x = .slice (some ad) m c) (hn : news.length = m * size) (hc : ∀ j u, news[j]? = some u → w.cell? (ad.add j) = some u) (h1c : ∀ u ∈ news, u.oneCell' = true)
    (hm : 0 < m) (b1 : n + m ≤ maxLen) (b2 : (n + m) * bytes ≤ 140737488355328)
    (hK : ∀ g off cap w', Sl w' e size (n + m) (.slice (some ⟨g, off, none⟩) (n + m) cap) (olds ++ news) → Kept (fun k => v.ownBlock = some k) w w' → (v.ownBlock = some g ∨ w.heap.size ≤ g) →
      K (a.put o.dst (.slice (some ⟨g, off, none⟩) (n + m) cap)) w') : if Region.wanted o (yielded ops a.tmps) = true then Oper.wp P o a w K Q else E := by
  have hw : Region.wanted o (yielded ops a.tmps) = true := by simp [Region.wanted, hg]
  rw [if_pos hw]
  exact wp_append_sl w s x t hop e i z size bytes h1 h2 h3 h4 h5 h6 h7 v n olds hs hsl ad m c news hx hn hc h1c hm b1 b2 hK
end

/-- The slice value v reads as n elements of 'size' cells each, the cells xs: of its row nothing is known beyond. -/
def Rd (w : World) (size n : Nat) (v : Value) (xs : List Value) : Prop :=
  xs.length = n * size ∧ ∃ ao cap, v = .slice ao n cap ∧ n ≤ cap ∧ (∀ j u, xs[j]? = some u → ∃ g off, ao = some ⟨g, off, none⟩ ∧ w.cell? ⟨g, off + j, none⟩ = some u)
theorem Rd.of_sl {w : World} {E : TypeId} {size n : Nat} {v : Value} {xs : List Value} (h : Sl w E size n v xs) : Rd w size n v xs := by
  refine ⟨h.1, ?_⟩
  rcases h.form with ⟨rfl, rfl, rfl⟩ | ⟨g, off, cap, rfl, hn, _⟩
  · exact ⟨none, 0, rfl, Nat.le_refl _, fun j u hu => by simp at hu⟩
  · refine ⟨_, cap, rfl, hn, fun j u hu => ⟨g, off, rfl, ?_⟩⟩
    have := h.cell rfl j u hu
    rwa [Addr.add_lit] at this
theorem Rd.kept {w w' : World} {size n : Nat} {v : Value} {xs : List Value} {S : Nat → Prop} (h : Rd w size n v xs) (hk : Kept S w w') (hs : ∀ k, v.ownBlock = some k → ¬ S k) : Rd w' size n v xs := by
  obtain ⟨h1, ao, cap, rfl, hn, hc⟩ := h
  refine ⟨h1, ao, cap, rfl, hn, fun j u hu => ?_⟩
  obtain ⟨g, off, rfl, hcell⟩ := hc j u hu
  exact ⟨g, off, rfl, (hk.cell (p := ⟨g, off + j, none⟩) (World.block_lt_of_cell? w ⟨g, off + j, none⟩ hcell) (hs g rfl)).trans hcell⟩
theorem Rd.at {w : World} {size n : Nat} {ao : Option Addr} {m c : Nat} {xs : List Value} (h : Rd w size n (.slice ao m c) xs) : m = n ∧ n ≤ c ∧ ∀ j u, xs[j]? = some u → ∃ g off, ao = some ⟨g, off, none⟩ ∧ w.cell? ⟨g, off + j, none⟩ = some u := by
  obtain ⟨_, ao', cap, hv, hn, hc⟩ := h
  injection hv with h1 h2 h3
  subst h1 h2 h3
  exact ⟨rfl, hn, hc⟩
theorem Rd.shape {w : World} {size n : Nat} {v : Value} {xs : List Value} (h : Rd w size n v xs) : ∃ ao cap, v = .slice ao n cap ∧ n ≤ cap := by
  obtain ⟨_, ao, cap, hv, hn, _⟩ := h
  exact ⟨ao, cap, hv, hn⟩
/-- One address for all cells, where there is an element. -/
theorem Rd.base {w : World} {size n : Nat} {v : Value} {xs : List Value} (h : Rd w size n v xs) (hn : 0 < n) (hs : 0 < size) :
    ∃ g off cap, v = .slice (some ⟨g, off, none⟩) n cap ∧ n ≤ cap ∧ g < w.heap.size ∧ ∀ j u, xs[j]? = some u → w.cell? ⟨g, off + j, none⟩ = some u := by
  obtain ⟨h1, ao, cap, rfl, hnc, hc⟩ := h
  have hpos : 0 < xs.length := by rw [h1]; exact Nat.mul_pos hn hs
  obtain ⟨g, off, rfl, h2⟩ := hc 0 xs[0] (List.getElem?_eq_getElem hpos)
  refine ⟨g, off, cap, rfl, hnc, World.block_lt_of_cell? w ⟨g, off + 0, none⟩ h2, fun j u hu => ?_⟩
  obtain ⟨g', off', h3, h4⟩ := hc j u hu
  injection h3 with h3
  injection h3 with h5 h6
  subst h5 h6
  exact h4
/-- A stretch of it. -/
theorem Rd.cut {w : World} {size n : Nat} {xs : List Value} {g off cap : Nat} (h : Rd w size n (.slice (some ⟨g, off, none⟩) n cap) xs) (lo hi c : Nat) (hlo : lo ≤ hi) (hhi : hi ≤ n) (hc : hi - lo ≤ c) :
    Rd w size (hi - lo) (.slice (some ⟨g, off + lo * size, none⟩) (hi - lo) c) ((xs.drop (lo * size)).take ((hi - lo) * size)) := by
  have e1 : (hi - lo) * size + lo * size ≤ n * size := by rw [← Nat.add_mul]; exact Nat.mul_le_mul_right _ (by omega)
  obtain ⟨_, _, hcell⟩ := h.at
  refine ⟨by rw [List.length_take, List.length_drop, h.1]; omega, _, c, rfl, hc, fun j u hu => ⟨_, _, rfl, ?_⟩⟩
  rw [List.getElem?_take] at hu
  split at hu
  · rw [List.getElem?_drop] at hu
    obtain ⟨g', off', h3, h4⟩ := hcell _ u hu
    injection h3 with h3
    injection h3 with h5 h6
    subst h5 h6
    rwa [← Nat.add_assoc] at h4
  · cases hu

/-- A slice over a whole block. -/
theorem rd_block {w : World} {g : Nat} {vs : List Value} {T : TypeId} {f : Nat × Nat} {size n : Nat} (h : w.heap[g]? = some (.cells vs.toArray T f)) (hl : vs.length = n * size) : Rd w size n (.slice (some ⟨g, 0, none⟩) n n) vs := by
  refine ⟨hl, _, n, rfl, Nat.le_refl _, fun j u hu => ⟨g, 0, rfl, ?_⟩⟩
  rw [cell_at h, Nat.zero_add, ← hu]
  simp

/-- One new cell block: what lies there. -/
theorem cells_new (w : World) (vs : List Value) (T : TypeId) (f : Nat × Nat) : ∀ j u, vs[j]? = some u → (w.alloc (.cells vs.toArray T f)).cell? ((⟨w.heap.size, 0, none⟩ : Addr).add j) = some u := by
  intro j u hu
  have hadd : (⟨w.heap.size, 0, none⟩ : Addr).add j = ⟨w.heap.size, j, none⟩ := by unfold Addr.add; split <;> simp_all
  rw [hadd, cell_at (heap_alloc_new w _)]
  simpa using hu

end Go.Proofs.YtekcjoogggoijaaGreatDoor
