/-
  Arguments that are slices of structs, of numbers, of strings: what lies in memory where they read as data. Over whatever program.
-/
import Derived.Test.YtgfpcjieonniiaaGreatLib
import Derived.ProofKit
import Derived.OpenShut
import Derived.Deep.Slices
import Derived.Deep.Fields
namespace Go.Proofs.YtgfpcjieonniiaaGreat
set_option linter.unusedVariables false
set_option linter.unusedSimpArgs false
set_option linter.unnecessarySimpa false
open Go.ChangeShapes Go.WideShapes Go.ChangeAt Go.RowKit Go.Deep

section
variable {H : Type} {enc : TypeId × Value → H} {P : Program} {w : World} {base : Nat} {held : Bool} {α : Type}

theorem flatMap_at {cells : α → List Value} {size : Nat} (hsz : ∀ y, (cells y).length = size) : ∀ (l : List α) (i : Nat) (h : i < l.length) (j : Nat), j < size → (l.flatMap cells)[i * size + j]? = (cells l[i])[j]?
  | x :: l, 0, h, j, hj => by
    rw [List.flatMap_cons, Nat.zero_mul, Nat.zero_add, List.getElem?_append_left (by rw [hsz]; exact hj)]
    rfl
  | x :: l, i + 1, h, j, hj => by
    rw [List.flatMap_cons, List.getElem?_append_right (by rw [hsz, Nat.add_mul]; omega), hsz, show (i + 1) * size + j - size = i * size + j by rw [Nat.add_mul]; omega]
    exact flatMap_at hsz l i (by simpa using h) j hj
theorem flatMap_len {cells : α → List Value} {size : Nat} (hsz : ∀ y, (cells y).length = size) : ∀ (l : List α), (l.flatMap cells).length = l.length * size
  | [] => by simp
  | x :: l => by rw [List.flatMap_cons, List.length_append, hsz, flatMap_len hsz l, List.length_cons, Nat.add_mul]; omega

/-- A slice that reads as data, whose elements' cells are known by 'ho'. -/
theorem open_rows {cells : α → List Value} {t e : TypeId} {size : Nat} (ht : P.underlying t = some (.slice e)) (hC : P.cellsOf e = size) (hsz : ∀ y, (cells y).length = size) (hs : 0 < size)
    (ho : ∀ n cs x, DataW.trod enc P w base (fun _ => true) held n e cs = some x → ∃ y, cs = cells y) {ao : Option Addr} {len cap : Nat} {d : DataW H} {p : List MemPlace}
    (h : DataW.Trod enc P w base (fun _ => true) held t (.slice ao len cap) d p) : ∃ l : List α, l.length = len ∧ Rd w size l.length (.slice ao len cap) (l.flatMap cells) := by
  obtain ⟨fuel, hf⟩ := h
  rcases open_slice ht hf with ⟨hcs, _⟩ | ⟨a, len', cap', m, n, D, Pl, hcs, hb, hl, hm, hmm, hx, hi⟩
  · simp [Value.cells] at hcs
    obtain ⟨rfl, rfl, rfl⟩ := hcs
    exact ⟨[], rfl, by simp, none, 0, rfl, Nat.le_refl _, fun j u hu => by simp at hu⟩
  · simp [Value.cells] at hcs
    obtain ⟨rfl, rfl, rfl⟩ := hcs
    simp only [if_true] at hmm
    subst hmm
    have hel : ∀ i, i < m → ∃ y, ∀ j, j < size → w.cell? (a.add (i * size + j)) = (cells y)[j]? := by
      intro i him
      obtain ⟨cs', hc, ht'⟩ := hi i him
      rw [hC] at hc
      obtain ⟨y, rfl⟩ := ho _ _ _ ht'
      obtain ⟨_, _, hat⟩ := World.cells?_some hc
      exact ⟨y, fun j hj => by rw [← hat j hj, Go.Deep.add_add]⟩
    have hlist : ∀ k, k ≤ m → ∃ l : List α, l.length = k ∧ ∀ i (hi : i < l.length) j, j < size → w.cell? (a.add (i * size + j)) = (cells l[i])[j]? := by
      intro k
      induction k with
      | zero => exact fun _ => ⟨[], rfl, fun i hi => by simp at hi⟩
      | succ k ih =>
        intro hk
        obtain ⟨l, hll, hl2⟩ := ih (by omega)
        obtain ⟨y, hy⟩ := hel k (by omega)
        refine ⟨l ++ [y], by simp [hll], fun i hi j hj => ?_⟩
        rcases Nat.lt_or_ge i l.length with hlt | hge
        · rw [List.getElem_append_left hlt]
          exact hl2 i hlt j hj
        · have : i = k := by simp at hi; omega
          subst this
          rw [List.getElem_append_right (by omega)]
          simpa using hy j hj
    obtain ⟨l, hll, hcell⟩ := hlist len hl
    refine ⟨l, hll, by rw [flatMap_len hsz], some a, m, by rw [hll], by omega, fun j u hu => ?_⟩
    have hjl : j < l.length * size := by
      have := (List.getElem?_eq_some_iff.1 hu).1
      rwa [flatMap_len hsz] at this
    have hq : j / size < l.length := (Nat.div_lt_iff_lt_mul hs).2 hjl
    have hr : j % size < size := Nat.mod_lt _ hs
    have he : j / size * size + j % size = j := by rw [Nat.mul_comm]; exact Nat.div_add_mod j size
    have h1 := flatMap_at hsz l (j / size) hq (j % size) hr
    rw [he, hu] at h1
    have h2 := hcell (j / size) hq (j % size) hr
    rw [he, ← h1] at h2
    obtain ⟨g, off, spot⟩ := a
    have hspot : spot = none := by
      have hpos : 0 < l.length := Nat.lt_of_le_of_lt (Nat.zero_le _) hq
      have h0 := hcell 0 hpos 0 hs
      have hz : (cells (l[0]'hpos))[0]? ≠ none := by
        rw [List.getElem?_eq_getElem (by rw [hsz]; exact hs)]; simp
      cases spot with
      | none => rfl
      | some s =>
        exfalso
        apply hz
        rw [← h0]
        simp [World.cell?, Addr.add]
        split <;> simp
    subst hspot
    exact ⟨g, off, rfl, by rwa [Addr.add_lit] at h2⟩

/-- A slice of ints. -/
theorem open_ints_rd {t e : TypeId} (ht : P.underlying t = some (.slice e)) (he : P.underlying e = some (.int .i64)) (hC : P.cellsOf e = 1) {ao : Option Addr} {len cap : Nat} {d : DataW H} {p : List MemPlace}
    (h : DataW.Trod enc P w base (fun _ => true) held t (.slice ao len cap) d p) : ∃ l : List Int, l.length = len ∧ Rd w 1 l.length (.slice ao len cap) (l.map (Value.int .i64)) ∧ ∀ y ∈ l, -9223372036854775808 ≤ y ∧ y ≤ 9223372036854775807 := by
  obtain ⟨l, hl, hr⟩ := open_rows (α := { n : Int // (Lit.int .i64 n).wf = true }) (cells := fun y => [.int .i64 y.1]) ht hC (fun _ => rfl) (by omega) (fun n cs x hx => by
    obtain ⟨m, rfl, _, hw⟩ := DataW.trod_int he hx
    exact ⟨⟨m, hw⟩, rfl⟩) h
  refine ⟨l.map (·.1), by simpa using hl, ?_, fun y hy => ?_⟩
  · have e1 : l.flatMap (fun y => [Value.int .i64 y.1]) = (l.map (·.1)).map (Value.int .i64) := by
      rw [List.map_map, List.map_eq_flatMap]
      rfl
    rw [e1] at hr
    simpa using hr
  · obtain ⟨z, _, rfl⟩ := List.mem_map.1 hy
    exact bounds_i64 z.2
/-- A slice of strings. -/
theorem open_strings_rd {t e : TypeId} (ht : P.underlying t = some (.slice e)) (he : P.underlying e = some .string) (hC : P.cellsOf e = 1) {ao : Option Addr} {len cap : Nat} {d : DataW H} {p : List MemPlace}
    (h : DataW.Trod enc P w base (fun _ => true) held t (.slice ao len cap) d p) : ∃ l : List ByteArray, l.length = len ∧ Rd w 1 l.length (.slice ao len cap) (l.map Value.string) ∧ ∀ y ∈ l, y.size ≤ maxLen := by
  obtain ⟨l, hl, hr⟩ := open_rows (α := { s : ByteArray // s.size ≤ maxLen }) (cells := fun y => [.string y.1]) ht hC (fun _ => rfl) (by omega) (fun n cs x hx => by
    obtain ⟨m, rfl, _, hw⟩ := DataW.trod_string he hx
    exact ⟨⟨m, hw⟩, rfl⟩) h
  refine ⟨l.map (·.1), by simpa using hl, ?_, fun y hy => ?_⟩
  · have e1 : l.flatMap (fun y => [Value.string y.1]) = (l.map (·.1)).map Value.string := by
      rw [List.map_map, List.map_eq_flatMap]
      rfl
    rw [e1] at hr
    simpa using hr
  · obtain ⟨z, _, rfl⟩ := List.mem_map.1 hy
    exact z.2
end
end Go.Proofs.YtgfpcjieonniiaaGreat
