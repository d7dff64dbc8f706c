/-
  Plain laws on a Book's lists, whatever their kind: a slice of slices of one's own (Kd); one of its lists set; one more behind; grown lists (Gi, Gr).
-/
import Derived.Test.YtekcjoogggoijaaGreatDoorCp01
set_option linter.unusedVariables false
set_option linter.unusedSimpArgs false
set_option linter.unnecessarySimpa false
namespace Go.Proofs.YtekcjoogggoijaaGreatDoor
open Go.RowKit

/-- The cells of n marks from number fr on. -/
def mkF (mk : Nat → List Value) (fr n : Nat) : List Value := (List.range n).flatMap fun j => mk (fr + j)
theorem mkF_zero (mk : Nat → List Value) (fr : Nat) : mkF mk fr 0 = [] := rfl
theorem mkF_succ (mk : Nat → List Value) (fr n : Nat) : mkF mk fr (n + 1) = mkF mk fr n ++ mk (fr + n) := by simp [mkF, List.range_succ]
theorem mkF_length {mk : Nat → List Value} {size : Nat} (h : ∀ k, (mk k).length = size) (fr : Nat) : ∀ n, (mkF mk fr n).length = n * size
  | 0 => by simp [mkF]
  | n + 1 => by rw [mkF_succ, List.length_append, mkF_length h fr n, h, Nat.add_mul, Nat.one_mul]
theorem mkF_add (mk : Nat → List Value) (fr n : Nat) : ∀ m, mkF mk fr (n + m) = mkF mk fr n ++ mkF mk (fr + n) m
  | 0 => by simp [mkF]
  | m + 1 => by rw [← Nat.add_assoc, mkF_succ, mkF_add mk fr n m, mkF_succ, List.append_assoc, Nat.add_assoc]

/-- append, as run_append_sl, telling more: the new slice begins where the old one does, with the same room, or its row is new. -/
theorem run_append_sl2 {P : Program} (w : World) (t ty : TypeId) (e : TypeId) (i : TypeInfo) (z : Value) (size bytes : Nat) (h1 : P.underlying t = some (.slice e)) (h2 : P.info? e = some i) (h3 : i.zero = some z) (h4 : i.size = size) (h5 : i.bytes = bytes) (h6 : z.cells.size = size) (h7 : 0 < size)
    (v : Value) (n : Nat) (olds : List Value) (hsl : Sl w e size n v olds)
    (ad : Addr) (m c : Nat) (news : List Value) (hn : news.length = m * size) (hc : ∀ j u, news[j]? = some u → w.cell? (ad.add j) = some u) (h1c : ∀ u ∈ news, u.oneCell' = true)
    (hm : 0 < m) (b1 : n + m ≤ maxLen) (b2 : (n + m) * bytes ≤ 140737488355328) :
    ∃ g off cap w', (Builtin.append_ #[t, t] ty #[v, .slice (some ad) m c]).run P w = .ok (.slice (some ⟨g, off, none⟩) (n + m) cap) w' ∧ Sl w' e size (n + m) (.slice (some ⟨g, off, none⟩) (n + m) cap) (olds ++ news) ∧
      Kept (fun k => v.ownBlock = some k) w w' ∧ (v = .slice (some ⟨g, off, none⟩) n cap ∨ w.heap.size ≤ g ∧ Kept (fun _ => False) w w') := by
  have fresh : ∀ v' w', (Builtin.append_ #[t, t] ty #[v, .slice (some ad) m c]).run P w = .ok v' w' → w'.ownsRow w.heap.size e size v' (n + m) (olds ++ news) → w.grownBy w' none →
      ∃ g off cap w', (Builtin.append_ #[t, t] ty #[v, .slice (some ad) m c]).run P w = .ok (.slice (some ⟨g, off, none⟩) (n + m) cap) w' ∧ Sl w' e size (n + m) (.slice (some ⟨g, off, none⟩) (n + m) cap) (olds ++ news) ∧
        Kept (fun k => v.ownBlock = some k) w w' ∧ (v = .slice (some ⟨g, off, none⟩) n cap ∨ w.heap.size ≤ g ∧ Kept (fun _ => False) w w') := by
    intro v' w' hrun hown hgr
    rcases hown.2 with ⟨_, h⟩ | ⟨g, cap, cur, rfl, hb, _⟩
    · omega
    · exact ⟨g, 0, cap, w', hrun, Sl.of_owns hown, ⟨hgr.os, hgr.tape, hgr.output, hgr.size, fun k hk _ => hgr.block k hk (by simp)⟩, .inr ⟨hb, hgr.os, hgr.tape, hgr.output, hgr.size, fun k hk _ => hgr.block k hk (by simp)⟩⟩
  rcases hsl.2 with ⟨rfl, rfl⟩ | ⟨g, off, cap, cur, rfl, hb, hnc, hcm, hfit, ht⟩
  · obtain rfl : olds = [] := List.eq_nil_of_length_eq_zero (by simpa using hsl.1)
    obtain ⟨v', w', hrun, r1, r2, _⟩ := run_append_own (P := P) w w.heap.size t ty e i z size bytes h1 h2 h3 h4 h5 h6 h7 (.slice none 0 0) 0 [] (World.ownsRow_nil w _ e size) ad m c news hn hc h1c b1 b2 (Nat.le_refl _)
    exact fresh v' w' hrun r1 r2
  · have holds : ∀ j u, olds[j]? = some u → w.cell? ((⟨g, off, none⟩ : Addr).add j) = some u := hsl.cell rfl
    by_cases hr : n + m ≤ cap
    · have hfits : off + n * size + news.length ≤ cur.size := by
        have : (n + m) * size ≤ cap * size := Nat.mul_le_mul_right _ hr
        rw [Nat.add_mul] at this
        omega
      subst h4
      have hrun := run_append_room_cells (P := P) w t ty e i h1 h2 g off n cap ad m c news hn hc h1c hr (fun j hj => by rw [cell_at hb, Array.getElem?_eq_getElem (by omega)]; rfl) (fun j hj => frozen_at hb _)
      obtain ⟨c', e1, e2, e3⟩ := setCells_block news (off + n * i.size) w cur hb hfits
      obtain ⟨f1, f2, f3, f4⟩ := setCells_facts g news (off + n * i.size) w
      refine ⟨g, off, cap, _, hrun, ⟨by rw [List.length_append, hsl.1, hn, Nat.add_mul], .inr ⟨g, off, cap, c', rfl, e1, hr, hcm, by omega, ?_⟩⟩, ⟨f2, f3, f4, by omega, fun k hk hne => setCells_other g _ _ _ _ (fun hh => hne (by simp [Value.ownBlock, hh]))⟩, .inl rfl⟩
      have hol : olds.length = n * i.size := hsl.1
      have hcl : off + n * i.size ≤ cur.toList.length := by simp; omega
      rw [e3, Nat.add_mul, ← hn, ← hol]
      have hd : (cur.toList.take (off + olds.length)).drop off = olds := by rw [List.drop_take, show off + olds.length - off = olds.length by omega, hol]; exact ht
      have hlt : (cur.toList.take (off + olds.length)).length = off + olds.length := by rw [List.length_take]; omega
      rw [List.append_assoc, List.drop_append, hd, hlt, show off - (off + olds.length) = 0 by omega, List.drop_zero, ← List.append_assoc, List.take_left' (by simp)]
    · obtain ⟨v', w', hrun, r1, r2⟩ := run_append_arg_grows (P := P) w t ty e i z size bytes h1 h2 h3 h4 h5 h6 h7 ⟨g, off, none⟩ n cap olds hsl.1 holds ad m c news hn hc (by omega) b1 b2
      exact fresh v' w' hrun r1 r2

section
variable {P : Program} {ops : Array Oper} {rest : List Oper} {o : Oper} {a : Act} {Q : Exit → Act → World → Prop} {K : Act → World → Prop}
theorem wpList_append_sl2 (w : World) (hg : o.guard = none) (s x : Operand) (t : TypeId) (hop : o.op = Op.call { callee := Callee.builtin Builtin.append, args := #[s, x], argTypes := #[t, t] })
    (e : TypeId) (i : TypeInfo) (z : Value) (size bytes : Nat) (h1 : P.underlying t = some (.slice e)) (h2 : P.info? e = some i) (h3 : i.zero = some z) (h4 : i.size = size) (h5 : i.bytes = bytes) (h6 : z.cells.size = size) (h7 : 0 < size)
    (v : Value) (n : Nat) (olds : List Value) (hs : a.eval s = v) (hsl : Sl w e size n v olds)
    (ad : Addr) (m c : Nat) (news : List Value) (hx : a.eval x = .slice (some ad) m c) (hn : news.length = m * size) (hc : ∀ j u, news[j]? = some u → w.cell? (ad.add j) = some u) (h1c : ∀ u ∈ news, u.oneCell' = true)
    (hm : 0 < m) (b1 : n + m ≤ maxLen) (b2 : (n + m) * bytes ≤ 140737488355328)
    (hK : ∀ g off cap w', Sl w' e size (n + m) (.slice (some ⟨g, off, none⟩) (n + m) cap) (olds ++ news) → Kept (fun k => v.ownBlock = some k) w w' → (v = .slice (some ⟨g, off, none⟩) n cap ∨ w.heap.size ≤ g ∧ Kept (fun _ => False) w w') →
      wpList P ops Q rest (a.put o.dst (.slice (some ⟨g, off, none⟩) (n + m) cap)) w') : wpList P ops Q (o :: rest) a w :=
  wpList_plain hg fun _ hK' => by
    obtain ⟨g, off, cap, w', hrun, r1, r2, r3⟩ := run_append_sl2 (P := P) w t o.type e i z size bytes h1 h2 h3 h4 h5 h6 h7 v n olds hsl ad m c news hn hc h1c hm b1 b2
    unfold Oper.wp
    simp [execOp, hop, resolve, invoke, builtin, hs, hx, hrun, Result.andThen]
    exact hK' _ _ (hK g off cap w' r1 r2 r3)
theorem step_append_sl2 (w : World) {E' : Prop} (hg : o.guard = none) (s x : Operand) (t : TypeId) (hop : o.op = Op.call { callee := Callee.builtin Builtin.append, args := #[s, x], argTypes := #[t, t] })
    (e : TypeId) (i : TypeInfo) (z : Value) (size bytes : Nat) (h1 : P.underlying t = some (.slice e)) (h2 : P.info? e = some i) (h3 : i.zero = some z) (h4 : i.size = size) (h5 : i.bytes = bytes) (h6 : z.cells.size = size) (h7 : 0 < size)
    (v : Value) (n : Nat) (olds : List Value) (hs : a.eval s = v) (hsl : Sl w e size n v olds)
    (ad : Addr) (m c : Nat) (news : List Value) (hx : a.eval x = .slice (some ad) m c) (hn : news.length = m * size) (hc : ∀ j u, news[j]? = some u → w.cell? (ad.add j) = some u) (h1c : ∀ u ∈ news, u.oneCell' = true)
    (hm : 0 < m) (b1 : n + m ≤ maxLen) (b2 : (n + m) * bytes ≤ 140737488355328)
    (hK : ∀ g off cap w', Sl w' e size (n + m) (.slice (some ⟨g, off, none⟩) (n + m) cap) (olds ++ news) → Kept (fun k => v.ownBlock = some k) w w' → (v = .slice (some ⟨g, off, none⟩) n cap ∨ w.heap.size ≤ g ∧ Kept (fun _ => False) w w') →
      K (a.put o.dst (.slice (some ⟨g, off, none⟩) (n + m) cap)) w') : if Region.wanted o (yielded ops a.tmps) = true then Oper.wp P o a w K Q else E' := by
  have hw : Region.wanted o (yielded ops a.tmps) = true := by simp [Region.wanted, hg]
  rw [if_pos hw]
  obtain ⟨g, off, cap, w', hrun, r1, r2, r3⟩ := run_append_sl2 (P := P) w t o.type e i z size bytes h1 h2 h3 h4 h5 h6 h7 v n olds hsl ad m c news hn hc h1c hm b1 b2
  unfold Oper.wp
  simp [execOp, hop, resolve, invoke, builtin, hs, hx, hrun, Result.andThen]
  exact hK g off cap w' r1 r2 r3
end

theorem setCells_dropG {c : List Value} {off n i size : Nat} {B : List Value} (hB : B.length = size) (hi : i < n) (hl : off + n * size ≤ c.length) :
    ((c.take (off + i * size) ++ B ++ c.drop (off + i * size + size)).drop off).take (n * size) = ((c.drop off).take (n * size)).take (i * size) ++ B ++ ((c.drop off).take (n * size)).drop (i * size + size) := by
  have hin : i * size + size ≤ n * size := by rw [show i * size + size = (i + 1) * size by rw [Nat.add_mul, Nat.one_mul]]; exact Nat.mul_le_mul_right _ hi
  generalize i * size = p at *
  generalize n * size = q at *
  have hA : (c.take (off + p)).length = off + p := by rw [List.length_take]; omega
  rw [List.append_assoc, List.drop_append_of_le_length (by omega), List.drop_take, show off + p - off = p by omega]
  have hA2 : ((c.drop off).take p).length = p := by rw [List.length_take, List.length_drop]; omega
  rw [List.take_append, hA2, List.take_of_length_le (l := (c.drop off).take p) (by omega), List.take_append, hB, List.take_of_length_le (l := B) (by omega)]
  rw [List.take_take, show min p q = p by omega, List.drop_take, List.drop_drop, List.append_assoc]
  have e1 : off + (p + size) = off + p + size := by omega
  have e2 : q - (p + size) = q - p - size := by omega
  rw [e1, e2]
/-- An element set in a slice's own row. -/
theorem Sl.setG {w : World} {E : TypeId} {size n : Nat} {g off cap : Nat} {xs : List Value} (h : Sl w E size n (.slice (some ⟨g, off, none⟩) n cap) xs) (i : Nat) (hi : i < n) (B : List Value) (hB : B.length = size) :
    Sl (w.setCells g (off + i * size) B) E size n (.slice (some ⟨g, off, none⟩) n cap) (xs.take (i * size) ++ B ++ xs.drop (i * size + size)) := by
  have hin : i * size + size ≤ n * size := by rw [show i * size + size = (i + 1) * size by rw [Nat.add_mul, Nat.one_mul]]; exact Nat.mul_le_mul_right _ hi
  rcases h.2 with ⟨hv, _⟩ | ⟨g', off', cap', cur, hv, hg, hn, hm, hs, ht⟩
  · cases hv
  · obtain ⟨rfl, rfl, rfl⟩ : g' = g ∧ off' = off ∧ cap' = cap := by
      injection hv with h1 h2 h3
      injection h1 with h1
      injection h1 with h4 h5
      exact ⟨h4.symm, h5.symm, h3.symm⟩
    have hfit : off' + n * size ≤ cur.toList.length := by simp; have : n * size ≤ cap' * size := Nat.mul_le_mul_right _ hn; omega
    obtain ⟨c', e1, e2, e3⟩ := setCells_block B (off' + i * size) w cur hg (by rw [hB]; simp at hfit; omega)
    refine ⟨?_, .inr ⟨g', off', cap', c', rfl, e1, hn, hm, by omega, ?_⟩⟩
    · rw [List.length_append, List.length_append, List.length_take, List.length_drop, hB, h.1]
      omega
    · rw [e3, hB, ← ht]
      exact setCells_dropG hB hi hfit
theorem Sl.thawG {w : World} {E : TypeId} {size n g off cap : Nat} {xs : List Value} (h : Sl w E size n (.slice (some ⟨g, off, none⟩) n cap) xs) (j : Nat) : w.frozen? ⟨g, j, none⟩ = false := by
  rcases h.2 with ⟨hv, _⟩ | ⟨g', off', cap', cur, hv, hg, hn, hm, hs, ht⟩
  · cases hv
  · injection hv with h1 h2 h3
    injection h1 with h1
    injection h1 with h4 h5
    subst h4
    exact frozen_at hg j
theorem Sl.cellG {w : World} {E : TypeId} {size n g off cap : Nat} {xs : List Value} (h : Sl w E size n (.slice (some ⟨g, off, none⟩) n cap) xs) (j : Nat) (u : Value) (hu : xs[j]? = some u) : w.cell? ⟨g, off + j, none⟩ = some u := by
  have := h.cell rfl j u hu
  rwa [Addr.add_lit] at this
theorem Kept.setCells {S : Nat → Prop} {a w : World} (h : Kept S a w) {g : Nat} (hp : g < a.heap.size → S g) (o : Nat) (B : List Value) : Kept S a (w.setCells g o B) := by
  obtain ⟨f1, f2, f3, f4⟩ := setCells_facts g B o w
  refine ⟨f2.trans h.os, f3.trans h.tape, f4.trans h.output, by have := h.size; omega, fun i hi hs => (setCells_other g _ _ _ _ (fun e => hs (by rw [e]; exact hp (by rw [← e]; exact hi)))).trans (h.block i hi hs)⟩
theorem put_next {mk : Nat → List Value} {size : Nat} (hmk : ∀ k, (mk k).length = size) (xs : List Value) (k : Nat) :
    (mkF mk 0 k ++ xs.drop (k * size)).take (k * size) ++ mk k ++ (mkF mk 0 k ++ xs.drop (k * size)).drop (k * size + size) = mkF mk 0 (k + 1) ++ xs.drop ((k + 1) * size) := by
  have hl := mkF_length hmk 0 k
  rw [List.take_left' hl, ← List.drop_drop, List.drop_left' hl, List.drop_drop, mkF_succ, Nat.zero_add, Nat.add_mul, Nat.one_mul]

/-- A slice V of N slices vs, each with rows of its own, of len i elements, their cells con i; F holds all rows. -/
structure Kd (w : World) (T E : TypeId) (size : Nat) (F : Nat → Prop) (N : Nat) (V : Value) (vs : List Value) (len : Nat → Nat) (con : Nat → List Value) : Prop where
  row : Sl w T 1 N V vs
  rowF : ∀ k, V.ownBlock = some k → F k
  item : ∀ i, i < N → ∃ v, vs[i]? = some v ∧ Sl w E size (len i) v (con i) ∧ ∀ k, v.ownBlock = some k → F k ∧ V.ownBlock ≠ some k
  dis : ∀ (i j : Nat) (v u : Value) (k : Nat), vs[i]? = some v → vs[j]? = some u → v.ownBlock = some k → u.ownBlock = some k → i = j
  lt : ∀ k, F k → k < w.heap.size

section
variable {w w' : World} {T E : TypeId} {size : Nat} {F S : Nat → Prop} {N : Nat} {V : Value} {vs : List Value} {len len' : Nat → Nat} {con con' : Nat → List Value}
theorem Kd.nil (w : World) (T E : TypeId) (size : Nat) (len : Nat → Nat) (con : Nat → List Value) : Kd w T E size (fun _ => False) 0 (.slice none 0 0) [] len con :=
  ⟨Sl.nil _ _ _, fun k h => (by cases h), fun i h => (by omega), fun i j v u k h => (by simp at h), fun k h => h.elim⟩
theorem Kd.length (h : Kd w T E size F N V vs len con) : vs.length = N := by have := h.row.1; omega
theorem Kd.kept (h : Kd w T E size F N V vs len con) (hk : Kept S w w') (hS : ∀ k, F k → ¬ S k) : Kd w' T E size F N V vs len con :=
  ⟨h.row.kept hk (fun k hk => hS k (h.rowF k hk)), h.rowF, fun i hi => by
    obtain ⟨v, hv, hs, ho⟩ := h.item i hi
    exact ⟨v, hv, hs.kept hk (fun k hk => hS k (ho k hk).1), ho⟩, h.dis, fun k hk' => Nat.lt_of_lt_of_le (h.lt k hk') hk.size⟩
theorem Kd.congr (h : Kd w T E size F N V vs len con) (he : ∀ i, i < N → len i = len' i ∧ con i = con' i) : Kd w T E size F N V vs len' con' :=
  ⟨h.row, h.rowF, fun i hi => by
    obtain ⟨v, hv, hs, ho⟩ := h.item i hi
    rw [(he i hi).1, (he i hi).2] at hs
    exact ⟨v, hv, hs, ho⟩, h.dis, h.lt⟩
theorem Kd.mono {G : Nat → Prop} (h : Kd w T E size F N V vs len con) (he : ∀ k, F k → G k) (hl : ∀ k, G k → k < w.heap.size) : Kd w T E size G N V vs len con :=
  ⟨h.row, fun k hk => he k (h.rowF k hk), fun i hi => by
    obtain ⟨v, hv, hs, ho⟩ := h.item i hi
    exact ⟨v, hv, hs, fun k hk => ⟨he k (ho k hk).1, (ho k hk).2⟩⟩, h.dis, hl⟩
/-- Where list i lies. -/
theorem Kd.at (h : Kd w T E size F N V vs len con) (i : Nat) (hi : i < N) : ∃ g off cap a m, V = .slice (some ⟨g, off, none⟩) N cap ∧ w.cell? ⟨g, off + i, none⟩ = some (.slice a (len i) m) ∧ vs[i]? = some (.slice a (len i) m) ∧ Sl w E size (len i) (.slice a (len i) m) (con i) := by
  obtain ⟨v, hv, hs, ho⟩ := h.item i hi
  obtain ⟨a, m, rfl, _⟩ := (Rd.of_sl hs).shape
  rcases h.row.form with ⟨_, h0, _⟩ | ⟨g, off, cap, rfl, _, _⟩
  · omega
  · exact ⟨g, off, cap, a, m, rfl, h.row.cellG i _ hv, hv, hs⟩
/-- List i's cells turned. -/
theorem Kd.set (h : Kd w T E size F N V vs len con) {i : Nat} {v : Value} {xs : List Value} (hv : vs[i]? = some v) (hk : Kept (fun k => v.ownBlock = some k) w w') (hs : Sl w' E size (len i) v xs) :
    Kd w' T E size F N V vs len (fun j => if j = i then xs else con j) := by
  have hi : i < N := by
    have := (List.getElem?_eq_some_iff.1 hv).1
    rw [h.length] at this
    exact this
  obtain ⟨v0, hv0, hs0, ho0⟩ := h.item i hi
  obtain rfl : v0 = v := by rw [hv] at hv0; injection hv0 with e; exact e.symm
  refine ⟨h.row.kept hk (fun k h1 h2 => (ho0 k h2).2 h1), h.rowF, fun j hj => ?_, h.dis, fun k hk' => Nat.lt_of_lt_of_le (h.lt k hk') hk.size⟩
  by_cases e : j = i
  · subst e
    refine ⟨v0, hv, ?_, ho0⟩
    simpa using hs
  · obtain ⟨u, hu, hsu, hou⟩ := h.item j hj
    refine ⟨u, hu, ?_, hou⟩
    rw [if_neg e]
    exact hsu.kept hk (fun k h1 h2 => e (h.dis j i u v0 k hu hv h1 h2))
/-- One more list behind. -/
theorem Kd.push (h : Kd w T E size F N V vs len con) {u : Value} {n : Nat} {xs : List Value} (hu : Sl w E size n u xs) (hf : ∀ k, u.ownBlock = some k → ¬ F k) {g off cap : Nat}
    (h1 : Sl w' T 1 (N + 1) (.slice (some ⟨g, off, none⟩) (N + 1) cap) (vs ++ [u])) (h2 : Kept (fun k => V.ownBlock = some k) w w') (h3 : V = .slice (some ⟨g, off, none⟩) N cap ∨ w.heap.size ≤ g ∧ Kept (fun _ => False) w w') :
    Kd w' T E size (fun k => F k ∨ u.ownBlock = some k ∨ k = g) (N + 1) (.slice (some ⟨g, off, none⟩) (N + 1) cap) (vs ++ [u]) (fun j => if j = N then n else len j) (fun j => if j = N then xs else con j) := by
  have hlen := h.length
  have hg : ∀ k, k = g → V.ownBlock = some k ∨ w.heap.size ≤ k := by
    rintro k rfl
    rcases h3 with rfl | h3
    · exact .inl rfl
    · exact .inr h3.1
  have hug : ∀ k, u.ownBlock = some k → k ≠ g := by
    intro k hk e
    rcases hg k e with hg | hg
    · exact hf k hk (h.rowF k hg)
    · have := hu.lt hk; omega
  refine ⟨h1, fun k hk => ?_, fun i hi => ?_, ?_, ?_⟩
  · simp [Value.ownBlock] at hk
    exact .inr (.inr hk.symm)
  · by_cases e : i = N
    · subst e
      refine ⟨u, by rw [List.getElem?_append_right (by omega), hlen]; simp, ?_, fun k hk => ⟨.inr (.inl hk), fun e => ?_⟩⟩
      · rw [if_pos rfl, if_pos rfl]
        exact hu.kept h2 (fun k h4 h5 => hf k h4 (h.rowF k h5))
      · simp [Value.ownBlock] at e
        exact hug k hk e.symm
    · obtain ⟨v, hv, hs, ho⟩ := h.item i (by omega)
      refine ⟨v, by rw [List.getElem?_append_left (by omega)]; exact hv, ?_, fun k hk => ⟨.inl (ho k hk).1, fun e => ?_⟩⟩
      · rw [if_neg e, if_neg e]
        exact hs.kept h2 (fun k h4 h5 => (ho k h4).2 h5)
      · simp [Value.ownBlock] at e
        rcases hg k e.symm with hg | hg
        · exact (ho k hk).2 hg
        · have := hs.lt hk; omega
  · have key : ∀ (j : Nat) (v : Value) (k : Nat), (vs ++ [u])[j]? = some v → v.ownBlock = some k → (j < N ∧ vs[j]? = some v ∧ F k) ∨ (j = N ∧ u.ownBlock = some k) := by
      intro j v k hv hk
      by_cases e : j < N
      · rw [List.getElem?_append_left (by omega)] at hv
        obtain ⟨v', hv', _, ho⟩ := h.item j e
        obtain rfl : v' = v := by rw [hv] at hv'; injection hv' with e; exact e.symm
        exact .inl ⟨e, hv, (ho k hk).1⟩
      · have hj : j < (vs ++ [u]).length := (List.getElem?_eq_some_iff.1 hv).1
        simp at hj
        obtain rfl : j = N := by omega
        rw [List.getElem?_append_right (by omega), hlen] at hv
        simp at hv
        subst hv
        exact .inr ⟨rfl, hk⟩
    intro i j v x k hv hx hvk hxk
    rcases key i v k hv hvk with ⟨hi, hv', hF⟩ | ⟨hi, hu1⟩
    · rcases key j x k hx hxk with ⟨hj, hx', _⟩ | ⟨hj, hu2⟩
      · exact h.dis i j v x k hv' hx' hvk hxk
      · exact absurd hF (hf k hu2)
    · rcases key j x k hx hxk with ⟨hj, hx', hF⟩ | ⟨hj, hu2⟩
      · exact absurd hF (hf k hu1)
      · omega
  · intro k hk
    have hsz := h2.size
    rcases hk with hk | hk | rfl
    · have := h.lt k hk; omega
    · have := hu.lt hk; omega
    · exact h1.lt rfl
end

theorem Sl.putOne {w : World} {E : TypeId} {size n g off cap : Nat} {mk : Nat → List Value} {xs : List Value} (hmk : ∀ k, (mk k).length = size) {j : Nat} (h : Sl w E size n (.slice (some ⟨g, off, none⟩) n cap) (mkF mk 0 j ++ xs.drop (j * size))) (hj : j < n) :
    Sl (w.setCells g (off + j * size) (mk j)) E size n (.slice (some ⟨g, off, none⟩) n cap) (mkF mk 0 (j + 1) ++ xs.drop ((j + 1) * size)) := by
  have := h.setG j hj (mk j) (hmk j)
  rwa [put_next hmk] at this
theorem Kd.putDone {wr w2 w3 : World} {T E : TypeId} {size : Nat} {F : Nat → Prop} {N : Nat} {V v : Value} {vs : List Value} {len : Nat → Nat} {con : Nat → List Value} {mk : Nat → Nat → List Value} (hmk : ∀ i k, (mk i k).length = size) {i z : Nat}
    (h : Kd wr T E size F N V vs len (fun j => if j < i then mkF (mk j) 0 (len j) else con j)) (hi : i < N) (hv : vs[i]? = some v) (hz : z = len i) (hk1 : Kept (fun _ => False) wr w2) (hk2 : Kept (fun k => v.ownBlock = some k) w2 w3)
    (hs : Sl w3 E size z v (mkF (mk i) 0 z ++ (if i < i then mkF (mk i) 0 (len i) else con i).drop (z * size))) :
    Kd w3 T E size F N V vs len (fun j => if j < i + 1 then mkF (mk j) 0 (len j) else con j) ∧ ∀ w0, Kept F w0 wr → Kept F w0 w3 := by
  subst hz
  obtain ⟨v', hv', hs', ho⟩ := h.item i hi
  obtain rfl : v' = v := by rw [hv] at hv'; injection hv' with e; exact e.symm
  have hlen := hs'.1
  rw [List.drop_of_length_le (by omega), List.append_nil] at hs
  have hk : Kept (fun k => v'.ownBlock = some k) wr w3 := (hk1.mono (fun _ _ h => h.elim)).trans hk2 (fun _ _ h => h)
  refine ⟨(h.set hv hk hs).congr (fun j hj => ⟨rfl, ?_⟩), fun w0 h0 => h0.trans hk (fun k _ hh => (ho k hh).1)⟩
  by_cases e : j = i
  · subst e
    simp
  · rw [if_neg e]
    by_cases e2 : j < i
    · rw [if_pos e2, if_pos (by omega)]
    · rw [if_neg e2, if_neg (by omega)]

/-- One more list, its slice stored in the Book's block: what there is then. -/
theorem Kd.keep {w w1 w2 : World} {T E : TypeId} {size : Nat} {F : Nat → Prop} {N : Nat} {V : Value} {vs : List Value} {len : Nat → Nat} {con : Nat → List Value} {b : Nat} {arr : Array Value} {BT : TypeId} (h : Kd w T E size F N V vs len con) (hb : w.heap[b]? = some (.cells arr BT (0, 0))) (hF : ¬ F b)
    {u : Value} {n : Nat} {xs : List Value} (hu : Sl w E size n u xs) (hf : ∀ k, u.ownBlock = some k → ¬ F k ∧ k ≠ b) (hk : Kept (fun _ => False) w w1) {g off cap : Nat}
    (h1 : Sl w2 T 1 (N + 1) (.slice (some ⟨g, off, none⟩) (N + 1) cap) (vs ++ [u])) (h2 : Kept (fun k => V.ownBlock = some k) w1 w2) (h3 : V = .slice (some ⟨g, off, none⟩) N cap ∨ w1.heap.size ≤ g ∧ Kept (fun _ => False) w1 w2) (o : Nat) :
    ∃ F', Kd (w2.setCell ⟨b, o, none⟩ (.slice (some ⟨g, off, none⟩) (N + 1) cap)) T E size F' (N + 1) (.slice (some ⟨g, off, none⟩) (N + 1) cap) (vs ++ [u]) (fun j => if j = N then n else len j) (fun j => if j = N then xs else con j) ∧
      (w2.setCell ⟨b, o, none⟩ (.slice (some ⟨g, off, none⟩) (N + 1) cap)).heap[b]? = some (.cells (arr.setIfInBounds o (.slice (some ⟨g, off, none⟩) (N + 1) cap)) BT (0, 0)) ∧
      ¬ F' b ∧ Kept (fun k => k = b ∨ F k) w (w2.setCell ⟨b, o, none⟩ (.slice (some ⟨g, off, none⟩) (N + 1) cap)) ∧ (∀ k, F' k → F k ∨ u.ownBlock = some k ∨ w.heap.size ≤ k) ∧ (∀ k, F k → F' k) ∧ ∀ k, u.ownBlock = some k → F' k := by
  have hp := (h.kept hk (fun _ _ h => h)).push (hu.kept hk (fun _ _ h => h)) (fun k hk' => (hf k hk').1) h1 h2 h3
  have hbl := lt_of_block hb
  have hz := hk.size
  have hg : ∀ k, k = g → F k ∨ w.heap.size ≤ k := by
    rintro k rfl
    rcases h3 with rfl | ⟨h3, _⟩
    · exact .inl (h.rowF k rfl)
    · exact .inr (by omega)
  have hnb : ¬ (F b ∨ u.ownBlock = some b ∨ b = g) := by
    rintro (e | e | e)
    · exact hF e
    · exact (hf b e).2 rfl
    · rcases hg b e with e | e
      · exact hF e
      · omega
  have hkk : Kept (fun k => k = b ∨ F k) w w2 := (hk.mono (fun _ _ h => h.elim)).trans h2 (fun k _ hV => .inr (h.rowF k hV))
  have hb2 : w2.heap[b]? = some (.cells arr BT (0, 0)) := by
    rw [h2.block b (by omega) (fun e => hF (h.rowF b e)), hk.block b hbl (fun e => e)]
    exact hb
  refine ⟨_, hp.kept ((Kept.refl (fun k => k = b) w2).setCell (p := ⟨b, o, none⟩) (fun _ => rfl) _) (fun k hk' e => hnb (e ▸ hk')), setCell_block hb2 _ _, hnb, hkk.setCell (p := ⟨b, o, none⟩) (fun _ => .inl rfl) _, ?_, fun k hk' => .inl hk', fun k hk' => .inr (.inl hk')⟩
  rintro k (e | e | e)
  · exact .inl e
  · exact .inr (.inl e)
  · exact (hg k e).imp id .inr

/-- The lists and their copies. -/
structure Kb (w : World) (T E : TypeId) (size : Nat) (F1 F2 : Nat → Prop) (N : Nat) (V C : Value) (vs cs : List Value) (len : Nat → Nat) (con : Nat → List Value) : Prop where
  v : Kd w T E size F1 N V vs len con
  c : Kd w T E size F2 N C cs len con
  dis : ∀ k, F1 k → ¬ F2 k
theorem Kb.kept {w w' : World} {T E : TypeId} {size : Nat} {F1 F2 S : Nat → Prop} {N : Nat} {V C : Value} {vs cs : List Value} {len : Nat → Nat} {con : Nat → List Value} (h : Kb w T E size F1 F2 N V C vs cs len con) (hk : Kept S w w') (hS : ∀ k, F1 k ∨ F2 k → ¬ S k) : Kb w' T E size F1 F2 N V C vs cs len con :=
  ⟨h.v.kept hk (fun k hk => hS k (.inl hk)), h.c.kept hk (fun k hk => hS k (.inr hk)), h.dis⟩
theorem Kb.congr {w : World} {T E : TypeId} {size : Nat} {F1 F2 : Nat → Prop} {N : Nat} {V C : Value} {vs cs : List Value} {len len' : Nat → Nat} {con con' : Nat → List Value} (h : Kb w T E size F1 F2 N V C vs cs len con) (he : ∀ i, i < N → len i = len' i ∧ con i = con' i) : Kb w T E size F1 F2 N V C vs cs len' con' :=
  ⟨h.v.congr he, h.c.congr he, h.dis⟩

/-- A list v of n elements that grows: lv has j more; v reads as it did. -/
structure Gi (wr wn : World) (E : TypeId) (size : Nat) (mk : Nat → List Value) (v lv : Value) (n j : Nat) : Prop where
  lt : ∀ k, v.ownBlock = some k → k < wr.heap.size
  still : Sl wn E size n v (mkF mk 0 n)
  cur : Sl wn E size (n + j) lv (mkF mk 0 (n + j))
  kept : Kept (fun k => v.ownBlock = some k) wr wn
  rel : (∃ g off cap, v = .slice (some ⟨g, off, none⟩) n cap ∧ lv = .slice (some ⟨g, off, none⟩) (n + j) cap) ∨ ∀ k, lv.ownBlock = some k → wr.heap.size ≤ k

theorem Sl.shorter {w : World} {E : TypeId} {size : Nat} {mk : Nat → List Value} {n j g off cap : Nat} (hmk : ∀ k, (mk k).length = size) (h : Sl w E size (n + j) (.slice (some ⟨g, off, none⟩) (n + j) cap) (mkF mk 0 (n + j))) : Sl w E size n (.slice (some ⟨g, off, none⟩) n cap) (mkF mk 0 n) := by
  refine ⟨mkF_length hmk 0 n, .inr ?_⟩
  rcases h.2 with ⟨hv, _⟩ | ⟨g', off', cap', cur, hv, hg, hn, hm, hs, ht⟩
  · cases hv
  · obtain ⟨rfl, rfl, rfl⟩ : g' = g ∧ off' = off ∧ cap' = cap := by
      injection hv with h1 h2 h3
      injection h1 with h1
      injection h1 with h4 h5
      exact ⟨h4.symm, h5.symm, h3.symm⟩
    refine ⟨g', off', cap', cur, rfl, hg, by omega, hm, hs, ?_⟩
    have e := mkF_add mk 0 n j
    have hl := mkF_length hmk 0 n
    have : ((cur.toList.drop off').take ((n + j) * size)).take (n * size) = mkF mk 0 n := by rw [ht, e, List.take_left' hl]
    rw [List.take_take] at this
    rw [← this]
    congr 1
    rw [Nat.add_mul]
    omega

section
variable {wr wn w' : World} {E : TypeId} {size : Nat} {mk : Nat → List Value} {v lv : Value} {n j : Nat}
theorem Gi.start (h : Sl wr E size n v (mkF mk 0 n)) : Gi wr wr E size mk v v n 0 := by
  refine ⟨fun k hk => h.lt hk, h, h, Kept.refl _ _, ?_⟩
  rcases h.form with ⟨rfl, _⟩ | ⟨g, off, cap, rfl, _⟩
  · exact .inr (fun k hk => by cases hk)
  · exact .inl ⟨g, off, cap, rfl, rfl⟩
theorem Gi.keep (h : Gi wr wn E size mk v lv n j) (hk : Kept (fun _ => False) wn w') : Gi wr w' E size mk v lv n j :=
  ⟨h.lt, h.still.kept hk (fun _ _ h => h), h.cur.kept hk (fun _ _ h => h), h.kept.trans hk (fun _ _ h => h.elim), h.rel⟩
theorem Gi.own (h : Gi wr wn E size mk v lv n j) {k : Nat} (hk : lv.ownBlock = some k) : v.ownBlock = some k ∨ wr.heap.size ≤ k := by
  rcases h.rel with ⟨g, off, cap, rfl, rfl⟩ | h
  · exact .inl hk
  · exact .inr (h k hk)
theorem Gi.push (h : Gi wr wn E size mk v lv n j) (hmk : ∀ k, (mk k).length = size) {m g off cap : Nat} (h1 : Sl w' E size (n + j + m) (.slice (some ⟨g, off, none⟩) (n + j + m) cap) (mkF mk 0 (n + j) ++ mkF mk (n + j) m)) (h2 : Kept (fun k => lv.ownBlock = some k) wn w')
    (h3 : lv = .slice (some ⟨g, off, none⟩) (n + j) cap ∨ wn.heap.size ≤ g ∧ Kept (fun _ => False) wn w') : Gi wr w' E size mk v (.slice (some ⟨g, off, none⟩) (n + j + m) cap) n (j + m) := by
  have e := mkF_add mk 0 (n + j) m
  rw [Nat.zero_add] at e
  rw [← e] at h1
  simp only [Nat.add_assoc] at h1 ⊢
  have hkept := h.kept.trans h2 (fun i hi hl => (h.own hl).elim id (fun e => by omega))
  rcases h3 with rfl | ⟨h3, h4⟩
  · rcases h.rel with ⟨g', off', cap', rfl, h4⟩ | h4
    · injection h4 with h5 _ h6
      injection h5 with h5
      injection h5 with h7 h8
      subst h6 h7 h8
      exact ⟨h.lt, h1.shorter hmk, h1, hkept, .inl ⟨g, off, cap, rfl, rfl⟩⟩
    · refine ⟨h.lt, h.still.kept h2 (fun k hk hg => ?_), h1, hkept, .inr (fun k hk => h4 k (by simpa [Value.ownBlock] using hk))⟩
      have := h4 k hg
      have := h.lt k hk
      omega
  · exact ⟨h.lt, h.still.kept h4 (fun _ _ h => h), h1, hkept, .inr (fun k hk => by simp [Value.ownBlock] at hk; have := h.kept.size; omega)⟩
end

/-- The first i lists grown, each by ext, in out; the lists themselves read as they did. -/
structure Gr (w0 wr : World) (T E : TypeId) (size : Nat) (F : Nat → Prop) (N : Nat) (V : Value) (vs : List Value) (len : Nat → Nat) (mk : Nat → Nat → List Value) (ext i : Nat) (out : Value) (os : List Value) : Prop where
  base : Kd w0 T E size F N V vs len (fun j => mkF (mk j) 0 (len j))
  row : Sl wr T 1 N V vs
  list : ∀ j, j < N → ∃ v, vs[j]? = some v ∧ Sl wr E size (len j) v (mkF (mk j) 0 (len j))
  kept : Kept F w0 wr
  orow : Sl wr T 1 i out os
  onew : ∀ k, out.ownBlock = some k → w0.heap.size ≤ k
  ol : ∀ j, j < i → ∃ u v, os[j]? = some u ∧ vs[j]? = some v ∧ Sl wr E size (len j + ext) u (mkF (mk j) 0 (len j + ext)) ∧ (∀ k, u.ownBlock = some k → v.ownBlock = some k ∨ w0.heap.size ≤ k) ∧ ∀ k, u.ownBlock = some k → out.ownBlock ≠ some k

section
variable {w0 wr wn w5 w6 : World} {T E : TypeId} {size : Nat} {F : Nat → Prop} {N : Nat} {V : Value} {vs : List Value} {len : Nat → Nat} {mk : Nat → Nat → List Value} {ext i : Nat} {out : Value} {os : List Value}
theorem Gr.start (h : Kd w0 T E size F N V vs len (fun j => mkF (mk j) 0 (len j))) : Gr w0 w0 T E size F N V vs len mk ext 0 (.slice none 0 0) [] :=
  ⟨h, h.row, fun j hj => by obtain ⟨v, hv, hs, _⟩ := h.item j hj; exact ⟨v, hv, hs⟩, Kept.refl _ _, Sl.nil _ _ _, fun k hk => (by cases hk), fun j hj => by omega⟩
theorem Gr.at (h : Gr w0 wr T E size F N V vs len mk ext i out os) (j : Nat) (hj : j < N) : ∃ g off cap a m, V = .slice (some ⟨g, off, none⟩) N cap ∧ wr.cell? ⟨g, off + j, none⟩ = some (.slice a (len j) m) ∧ vs[j]? = some (.slice a (len j) m) ∧ Sl wr E size (len j) (.slice a (len j) m) (mkF (mk j) 0 (len j)) := by
  obtain ⟨v, hv, hs⟩ := h.list j hj
  obtain ⟨a, m, rfl, _⟩ := (Rd.of_sl hs).shape
  rcases h.row.form with ⟨_, h0, _⟩ | ⟨g, off, cap, rfl, _, _⟩
  · omega
  · exact ⟨g, off, cap, a, m, rfl, h.row.cellG j _ hv, hv, hs⟩
theorem Gr.out_at (h : Gr w0 wr T E size F N V vs len mk ext i out os) (hi : i < N) {v lv : Value} {n j : Nat} (hv : vs[i]? = some v) (hg : Gi wr wn E size (mk i) v lv n j) : Sl wn T 1 i out os := by
  obtain ⟨v', hv', _, hvo⟩ := h.base.item i hi
  obtain rfl : v' = v := by rw [hv] at hv'; injection hv' with e; exact e.symm
  refine h.orow.kept hg.kept (fun k hk hh => ?_)
  have := h.base.lt k (hvo k hh).1
  have := h.onew k hk
  omega
theorem Gr.step (h : Gr w0 wr T E size F N V vs len mk ext i out os) (hi : i < N) {v lv : Value} (hv : vs[i]? = some v) (hg : Gi wr wn E size (mk i) v lv (len i) ext) (hk : Kept (fun _ => False) wn w5) {g off cap : Nat}
    (h1 : Sl w6 T 1 (i + 1) (.slice (some ⟨g, off, none⟩) (i + 1) cap) (os ++ [lv])) (h2 : Kept (fun k => out.ownBlock = some k) w5 w6) (h3 : out = .slice (some ⟨g, off, none⟩) i cap ∨ w5.heap.size ≤ g ∧ Kept (fun _ => False) w5 w6) :
    Gr w0 w6 T E size F N V vs len mk ext (i + 1) (.slice (some ⟨g, off, none⟩) (i + 1) cap) (os ++ [lv]) := by
  have hol : os.length = i := by have := h.orow.1; omega
  have hz0 := h.kept.size
  have hz1 := hg.kept.size
  have hz2 := hk.size
  have hz3 := h2.size
  obtain ⟨v', hv', _, hvo⟩ := h.base.item i hi
  obtain rfl : v' = v := by rw [hv] at hv'; injection hv' with e; exact e.symm
  have hvlt : ∀ k, v'.ownBlock = some k → k < w0.heap.size := fun k hk => h.base.lt k (hvo k hk).1
  have hout : ∀ k, out.ownBlock = some k → w0.heap.size ≤ k ∧ k < wr.heap.size := fun k hk => ⟨h.onew k hk, h.orow.lt hk⟩
  -- what reads as it did behind the whole round: rows apart from v's and from out's
  have hall : Kept (fun k => v'.ownBlock = some k ∨ out.ownBlock = some k) wr w6 := ((hg.kept.mono (fun _ _ h => Or.inl h)).trans hk (fun _ _ h => h.elim)).trans h2 (fun _ _ h => .inr h)
  have hgg : ∀ k, k = g → out.ownBlock = some k ∨ w5.heap.size ≤ k := by
    rintro k rfl
    rcases h3 with rfl | h3
    · exact .inl rfl
    · exact .inr h3.1
  refine ⟨h.base, h.row.kept hall (fun k hk hh => ?_), fun j hj => ?_, ?_, h1, fun k hk => ?_, fun j hj => ?_⟩
  · have hkF := h.base.rowF k hk
    rcases hh with hh | hh
    · exact (hvo k hh).2 hk
    · have := (hout k hh).1; have := h.base.lt k hkF; omega
  · by_cases e : j = i
    · subst e
      refine ⟨v', hv, (hg.still.kept hk (fun _ _ h => h)).kept h2 (fun k hk hh => ?_)⟩
      have := (hout k hh).1; have := hvlt k hk; omega
    · obtain ⟨u, hu, hs⟩ := h.list j hj
      obtain ⟨u', hu', _, huo⟩ := h.base.item j hj
      obtain rfl : u' = u := by rw [hu] at hu'; injection hu' with e; exact e.symm
      refine ⟨u', hu, hs.kept hall (fun k hk hh => ?_)⟩
      rcases hh with hh | hh
      · exact e (h.base.dis j i u' v' k hu hv hk hh)
      · have := (hout k hh).1; have := h.base.lt k (huo k hk).1; omega
  · refine h.kept.trans hall (fun k hk hh => ?_)
    rcases hh with hh | hh
    · exact (hvo k hh).1
    · have := (hout k hh).1; omega
  · simp [Value.ownBlock] at hk
    subst hk
    rcases hgg g rfl with hh | hh
    · exact (hout g hh).1
    · omega
  · by_cases e : j = i
    · subst e
      refine ⟨lv, v', by rw [List.getElem?_append_right (by omega), hol]; simp, hv, (hg.cur.kept hk (fun _ _ h => h)).kept h2 (fun k hk hh => ?_), fun k hk => ?_, fun k hk hh => ?_⟩
      · have := hout k hh
        rcases hg.own hk with h5 | h5
        · have := hvlt k h5; omega
        · omega
      · rcases hg.own hk with h5 | h5
        · exact .inl h5
        · exact .inr (by omega)
      · simp [Value.ownBlock] at hh
        subst hh
        have hlt := hg.cur.lt hk
        rcases hgg g rfl with hh | hh
        · have := hout g hh
          rcases hg.own hk with h5 | h5
          · have := hvlt g h5; omega
          · omega
        · omega
    · obtain ⟨u, x, hu, hx, hs, ho1, ho2⟩ := h.ol j (by omega)
      refine ⟨u, x, by rw [List.getElem?_append_left (by omega)]; exact hu, hx, hs.kept hall (fun k hk hh => ?_), ho1, fun k hk hh => ?_⟩
      · rcases hh with hh | hh
        · rcases ho1 k hk with h5 | h5
          · exact e (h.base.dis j i x v' k hx hv h5 hh)
          · have := hvlt k hh; omega
        · exact ho2 k hk hh
      · simp [Value.ownBlock] at hh
        subst hh
        have := hs.lt hk
        rcases hgg g rfl with hh | hh
        · exact ho2 g hk hh
        · omega
end
end Go.Proofs.YtekcjoogggoijaaGreatDoor
