/-
  No cache at all.
-/
import Derived.Test.YtekcjoogggoijaaGreatDoorCp01
import Derived.ProofKit
import Derived.OpenShut
import Derived.Deep.Slices
import Derived.Deep.Fields
import Derived.Test.YtekcjoogggoijaaGreatDoorCp33
import Derived.Test.YtekcjoogggoijaaGreatDoorCp19
set_option linter.unusedVariables false
set_option linter.unusedSimpArgs false
set_option linter.unnecessarySimpa false
namespace Go.Proofs.YtekcjoogggoijaaGreatDoor
open Go.ChangeShapes Go.WideShapes Go.ChangeAt Go.RowKit Go.Deep

section
variable {H : Type} {enc : TypeId × Value → H} {P : Program} {w : World} {base : Nat} {held : Bool} {α : Type}

theorem flatMap_at {cells : α → List Value} {size : Nat} (hsz : ∀ y, (cells y).length = size) : ∀ (l : List α) (i : Nat) (h : i < l.length) (j : Nat), j < size → (l.flatMap cells)[i * size + j]? = (cells l[i])[j]?
  | x :: l, 0, h, j, hj => by
    rw [List.flatMap_cons, Nat.zero_mul, Nat.zero_add, List.getElem?_append_left (by rw [hsz]; exact hj)]
    rfl
  | x :: l, i + 1, h, j, hj => by
    rw [List.flatMap_cons, List.getElem?_append_right (by rw [hsz, Nat.add_mul]; omega), hsz, show (i + 1) * size + j - size = i * size + j by rw [Nat.add_mul]; omega]
    exact flatMap_at hsz l i (by simpa using h) j hj
theorem flatMap_len {cells : α → List Value} {size : Nat} (hsz : ∀ y, (cells y).length = size) : ∀ (l : List α), (l.flatMap cells).length = l.length * size
  | [] => by simp
  | x :: l => by rw [List.flatMap_cons, List.length_append, hsz, flatMap_len hsz l, List.length_cons, Nat.add_mul]; omega

/-- A slice that reads as data, whose elements' cells are known by 'ho'. -/
theorem open_rows {cells : α → List Value} {t e : TypeId} {size : Nat} (ht : P.underlying t = some (.slice e)) (hC : P.cellsOf e = size) (hsz : ∀ y, (cells y).length = size) (hs : 0 < size)
    (ho : ∀ n cs x, DataW.trod enc P w base (fun _ => true) held n e cs = some x → ∃ y, cs = cells y) {ao : Option Addr} {len cap : Nat} {d : DataW H} {p : List MemPlace}
    (h : DataW.Trod enc P w base (fun _ => true) held t (.slice ao len cap) d p) : ∃ l : List α, l.length = len ∧ Rd w size l.length (.slice ao len cap) (l.flatMap cells) := by
  obtain ⟨fuel, hf⟩ := h
  rcases open_slice ht hf with ⟨hcs, _⟩ | ⟨a, len', cap', m, n, D, Pl, hcs, hb, hl, hm, hmm, hx, hi⟩
  · simp [Value.cells] at hcs
    obtain ⟨rfl, rfl, rfl⟩ := hcs
    exact ⟨[], rfl, by simp, none, 0, rfl, Nat.le_refl _, fun j u hu => by simp at hu⟩
  · simp [Value.cells] at hcs
    obtain ⟨rfl, rfl, rfl⟩ := hcs
    simp only [if_true] at hmm
    subst hmm
    have hel : ∀ i, i < m → ∃ y, ∀ j, j < size → w.cell? (a.add (i * size + j)) = (cells y)[j]? := by
      intro i him
      obtain ⟨cs', hc, ht'⟩ := hi i him
      rw [hC] at hc
      obtain ⟨y, rfl⟩ := ho _ _ _ ht'
      obtain ⟨_, _, hat⟩ := World.cells?_some hc
      exact ⟨y, fun j hj => by rw [← hat j hj, Go.Deep.add_add]⟩
    have hlist : ∀ k, k ≤ m → ∃ l : List α, l.length = k ∧ ∀ i (hi : i < l.length) j, j < size → w.cell? (a.add (i * size + j)) = (cells l[i])[j]? := by
      intro k
      induction k with
      | zero => exact fun _ => ⟨[], rfl, fun i hi => by simp at hi⟩
      | succ k ih =>
        intro hk
        obtain ⟨l, hll, hl2⟩ := ih (by omega)
        obtain ⟨y, hy⟩ := hel k (by omega)
        refine ⟨l ++ [y], by simp [hll], fun i hi j hj => ?_⟩
        rcases Nat.lt_or_ge i l.length with hlt | hge
        · rw [List.getElem_append_left hlt]
          exact hl2 i hlt j hj
        · have : i = k := by simp at hi; omega
          subst this
          rw [List.getElem_append_right (by omega)]
          simpa using hy j hj
    obtain ⟨l, hll, hcell⟩ := hlist len hl
    refine ⟨l, hll, by rw [flatMap_len hsz], some a, m, by rw [hll], by omega, fun j u hu => ?_⟩
    have hjl : j < l.length * size := by
      have := (List.getElem?_eq_some_iff.1 hu).1
      rwa [flatMap_len hsz] at this
    have hq : j / size < l.length := (Nat.div_lt_iff_lt_mul hs).2 hjl
    have hr : j % size < size := Nat.mod_lt _ hs
    have he : j / size * size + j % size = j := by rw [Nat.mul_comm]; exact Nat.div_add_mod j size
    have h1 := flatMap_at hsz l (j / size) hq (j % size) hr
    rw [he, hu] at h1
    have h2 := hcell (j / size) hq (j % size) hr
    rw [he, ← h1] at h2
    obtain ⟨g, off, spot⟩ := a
    have hspot : spot = none := by
      have hpos : 0 < l.length := Nat.lt_of_le_of_lt (Nat.zero_le _) hq
      have h0 := hcell 0 hpos 0 hs
      have hz : (cells (l[0]'hpos))[0]? ≠ none := by
        rw [List.getElem?_eq_getElem (by rw [hsz]; exact hs)]; simp
      cases spot with
      | none => rfl
      | some s =>
        exfalso
        apply hz
        rw [← h0]
        simp [World.cell?, Addr.add]
        split <;> simp
    subst hspot
    exact ⟨g, off, rfl, by rwa [Addr.add_lit] at h2⟩

/-- A slice of ints. -/
theorem open_ints_rd {t e : TypeId} (ht : P.underlying t = some (.slice e)) (he : P.underlying e = some (.int .i64)) (hC : P.cellsOf e = 1) {ao : Option Addr} {len cap : Nat} {d : DataW H} {p : List MemPlace}
    (h : DataW.Trod enc P w base (fun _ => true) held t (.slice ao len cap) d p) : ∃ l : List Int, l.length = len ∧ Rd w 1 l.length (.slice ao len cap) (l.map (Value.int .i64)) ∧ ∀ y ∈ l, -9223372036854775808 ≤ y ∧ y ≤ 9223372036854775807 := by
  obtain ⟨l, hl, hr⟩ := open_rows (α := { n : Int // (Lit.int .i64 n).wf = true }) (cells := fun y => [.int .i64 y.1]) ht hC (fun _ => rfl) (by omega) (fun n cs x hx => by
    obtain ⟨m, rfl, _, hw⟩ := DataW.trod_int he hx
    exact ⟨⟨m, hw⟩, rfl⟩) h
  refine ⟨l.map (·.1), by simpa using hl, ?_, fun y hy => ?_⟩
  · have e1 : l.flatMap (fun y => [Value.int .i64 y.1]) = (l.map (·.1)).map (Value.int .i64) := by
      rw [List.map_map, List.map_eq_flatMap]
      rfl
    rw [e1] at hr
    simpa using hr
  · obtain ⟨z, _, rfl⟩ := List.mem_map.1 hy
    exact bounds_i64 z.2
/-- A slice of strings. -/
theorem open_strings_rd {t e : TypeId} (ht : P.underlying t = some (.slice e)) (he : P.underlying e = some .string) (hC : P.cellsOf e = 1) {ao : Option Addr} {len cap : Nat} {d : DataW H} {p : List MemPlace}
    (h : DataW.Trod enc P w base (fun _ => true) held t (.slice ao len cap) d p) : ∃ l : List ByteArray, l.length = len ∧ Rd w 1 l.length (.slice ao len cap) (l.map Value.string) ∧ ∀ y ∈ l, y.size ≤ maxLen := by
  obtain ⟨l, hl, hr⟩ := open_rows (α := { s : ByteArray // s.size ≤ maxLen }) (cells := fun y => [.string y.1]) ht hC (fun _ => rfl) (by omega) (fun n cs x hx => by
    obtain ⟨m, rfl, _, hw⟩ := DataW.trod_string he hx
    exact ⟨⟨m, hw⟩, rfl⟩) h
  refine ⟨l.map (·.1), by simpa using hl, ?_, fun y hy => ?_⟩
  · have e1 : l.flatMap (fun y => [Value.string y.1]) = (l.map (·.1)).map Value.string := by
      rw [List.map_map, List.map_eq_flatMap]
      rfl
    rw [e1] at hr
    simpa using hr
  · obtain ⟨z, _, rfl⟩ := List.mem_map.1 hy
    exact z.2
end
end Go.Proofs.YtekcjoogggoijaaGreatDoor
namespace Go.Proofs.YtekcjoogggoijaaGreatDoor
open Go.ChangeShapes Go.WideShapes Go.ChangeAt Go.RowKit Go.Deep
set_option maxRecDepth 100000

/-- A command that may come in. -/
structure CmB (x : Cm) : Prop where
  o0 : -9223372036854775808 ≤ x.op
  o1 : x.op ≤ 9223372036854775807
  k : x.key.size ≤ maxLen
  v : x.val.size ≤ maxLen
  n0 : -9223372036854775808 ≤ x.num
  n1 : x.num ≤ 9223372036854775807
  r0 : -9223372036854775808 ≤ x.ver
  r1 : x.ver ≤ 9223372036854775807
theorem cm_cells {H : Type} {enc : TypeId × Value → H} {w : World} {base : Nat} {held : Bool} {n : Nat} {cs : List Value} {x : DataW H × List MemPlace} (hx : DataW.trod enc Tryz.prog w base (fun _ => true) held n 39 cs = some x) :
    ∃ y : { x : Cm // CmB x }, cs = y.1.cells := by
  have hC : Tryz.prog.cellsOf 39 = 5 := by kernel_rfl
  have hone : oneCellFields Tryz.prog #[{ name := "Op", type := 3, offset := 0, embedded := false, tag := "", pkgPath := "", byteOffset := 0 }, { name := "Key", type := 9, offset := 1, embedded := false, tag := "", pkgPath := "", byteOffset := 8 },
    { name := "Value", type := 9, offset := 2, embedded := false, tag := "", pkgPath := "", byteOffset := 24 }, { name := "Num", type := 3, offset := 3, embedded := false, tag := "", pkgPath := "", byteOffset := 40 }, { name := "Ver", type := 3, offset := 4, embedded := false, tag := "", pkgPath := "", byteOffset := 48 }] = true := by kernel_rfl
  obtain ⟨xs, n', _, _, hlen, hxl, hf⟩ := DataW.trod_struct Tryz.underlying39 hx
  rw [hC] at hlen
  match cs, hlen with
  | [c0, c1, c2, c3, c4], _ =>
    match xs, hxl with
    | [y0, y1, y2, y3, y4], _ =>
      obtain ⟨o0, k0⟩ := hone_of hone 0 _ rfl
      obtain ⟨o1, k1⟩ := hone_of hone 1 _ rfl
      obtain ⟨o2, k2⟩ := hone_of hone 2 _ rfl
      obtain ⟨o3, k3⟩ := hone_of hone 3 _ rfl
      obtain ⟨o4, k4⟩ := hone_of hone 4 _ rfl
      have g0 := hf 0 _ rfl
      have g1 := hf 1 _ rfl
      have g2 := hf 2 _ rfl
      have g3 := hf 3 _ rfl
      have g4 := hf 4 _ rfl
      rw [k0] at g0
      rw [k1] at g1
      rw [k2] at g2
      rw [k3] at g3
      rw [k4] at g4
      obtain ⟨s0, e0, _, b0⟩ := DataW.trod_int Tryz.underlying3 g0
      obtain ⟨s1, e1, _, b1⟩ := DataW.trod_string Tryz.underlying9 g1
      obtain ⟨s2, e2, _, b2⟩ := DataW.trod_string Tryz.underlying9 g2
      obtain ⟨s3, e3, _, b3⟩ := DataW.trod_int Tryz.underlying3 g3
      obtain ⟨s4, e4, _, b4⟩ := DataW.trod_int Tryz.underlying3 g4
      simp at e0 e1 e2 e3 e4
      subst e0 e1 e2 e3 e4
      have b0 := bounds_i64 b0
      have b3 := bounds_i64 b3
      have b4 := bounds_i64 b4
      exact ⟨⟨⟨s0, s1, s2, s3, s4⟩, ⟨b0.1, b0.2, b1, b2, b3.1, b3.2, b4.1, b4.2⟩⟩, rfl⟩
theorem open_cms {H : Type} {enc : TypeId × Value → H} {w : World} {base : Nat} {held : Bool} {ao : Option Addr} {len cap : Nat} {d : DataW H} {p : List MemPlace}
    (h : DataW.Trod enc Tryz.prog w base (fun _ => true) held 136 (.slice ao len cap) d p) : ∃ l : List Cm, l.length = len ∧ Rd w 5 l.length (.slice ao len cap) (flatC l) ∧ ∀ x ∈ l, CmB x := by
  have hC : Tryz.prog.cellsOf 39 = 5 := by kernel_rfl
  obtain ⟨l, hl, hr⟩ := open_rows (cells := fun y : { x : Cm // CmB x } => y.1.cells) Tryz.underlying136 hC (fun _ => rfl) (by omega) (fun n cs x hx => cm_cells hx) h
  refine ⟨l.map (·.1), by rw [List.length_map]; exact hl, ?_, fun x hx => ?_⟩
  · have e : flatC (l.map (·.1)) = l.flatMap (fun y => y.1.cells) := by unfold flatC; rw [List.flatMap_map]
    rw [List.length_map, e]
    exact hr
  · obtain ⟨y, _, rfl⟩ := List.mem_map.1 hx
    exact y.2
theorem open_cm {H : Type} {enc : TypeId × Value → H} {w : World} {base b0 : Nat} {held : Bool} {v : Value} {d : DataW H} {p : List MemPlace}
    (hv : Value.okWide Tryz.prog w .any b0 39 v) (h : DataW.Trod enc Tryz.prog w base (fun _ => true) held 39 v d p) : ∃ x : Cm, v = .agg #[.int .i64 x.op, .string x.key, .string x.val, .int .i64 x.num, .int .i64 x.ver] ∧ CmB x := by
  obtain ⟨cs, rfl, _⟩ := okWide_struct Tryz.underlying39 hv
  obtain ⟨fuel, hf⟩ := h
  obtain ⟨y, hy⟩ := cm_cells hf
  refine ⟨y.1, ?_, y.2⟩
  simp [Value.cells] at hy
  congr 1
  exact Array.ext' (by simpa [Cm.cells] using hy)
end Go.Proofs.YtekcjoogggoijaaGreatDoor
namespace Go.Proofs.YtekcjoogggoijaaGreatDoor
open Go.ChangeShapes Go.WideShapes Go.ChangeAt Go.RowKit Go.Deep
set_option maxRecDepth 100000

/-- A command, at its time; is its version that of the item? -/
structure COp where
  c : Cm
  now : Int
  near : Bool
def COp.cells (o : COp) : List Value := [.int .i64 o.c.op, .string o.c.key, .string o.c.val, .int .i64 o.c.num, .int .i64 o.c.ver, .int .i64 o.now, .bool o.near]
theorem rd_cop {w : World} {l : List COp} {ao : Option Addr} {m c : Nat} (h : Rd w 7 l.length (.slice ao m c) (l.flatMap COp.cells)) (i : Nat) (hi : i < l.length) :
    ∃ g off, ao = some ⟨g, off, none⟩ ∧ w.cell? ⟨g, off + i * 7, none⟩ = some (.int .i64 (l[i]).c.op) ∧ w.cell? ⟨g, off + i * 7 + 1, none⟩ = some (.string (l[i]).c.key) ∧ w.cell? ⟨g, off + i * 7 + 2, none⟩ = some (.string (l[i]).c.val) ∧ w.cell? ⟨g, off + i * 7 + 3, none⟩ = some (.int .i64 (l[i]).c.num) ∧
      w.cell? ⟨g, off + i * 7 + 4, none⟩ = some (.int .i64 (l[i]).c.ver) ∧ w.cell? ⟨g, off + i * 7 + 5, none⟩ = some (.int .i64 (l[i]).now) ∧ w.cell? ⟨g, off + i * 7 + 6, none⟩ = some (.bool (l[i]).near) := by
  obtain ⟨_, _, hc⟩ := h.at
  have f := fun j hj => flatMap_at (cells := COp.cells) (size := 7) (fun _ => rfl) l i hi j hj
  obtain ⟨g, off, rfl, h0⟩ := hc _ _ ((f 0 (by omega)).trans rfl)
  have go : ∀ (j : Nat) (u : Value), j < 7 → (l[i]).cells[j]? = some u → w.cell? ⟨g, off + i * 7 + j, none⟩ = some u := fun j u hj hu => by
    obtain ⟨g', off', e, h'⟩ := hc _ u ((f j hj).trans hu)
    injection e with e
    injection e with e1 e2
    subst e1 e2
    rw [Nat.add_assoc]
    exact h'
  exact ⟨g, off, rfl, by simpa using h0, go 1 _ (by omega) rfl, go 2 _ (by omega) rfl, go 3 _ (by omega) rfl, go 4 _ (by omega) rfl, go 5 _ (by omega) rfl, go 6 _ (by omega) rfl⟩
theorem cop_cells {H : Type} {enc : TypeId × Value → H} {w : World} {base : Nat} {held : Bool} {n : Nat} {cs : List Value} {x : DataW H × List MemPlace} (hx : DataW.trod enc Tryz.prog w base (fun _ => true) held n 41 cs = some x) :
    ∃ y : { o : COp // CmB o.c ∧ -9223372036854775808 ≤ o.now ∧ o.now ≤ 9223372036854775807 }, cs = y.1.cells := by
  have hC : Tryz.prog.cellsOf 41 = 7 := by kernel_rfl
  have hC5 : Tryz.prog.cellsOf 39 = 5 := by kernel_rfl
  have hC1 : Tryz.prog.cellsOf 3 = 1 := by kernel_rfl
  have hCb : Tryz.prog.cellsOf 4 = 1 := by kernel_rfl
  obtain ⟨xs, n', _, _, hlen, hxl, hf⟩ := DataW.trod_struct Tryz.underlying41 hx
  rw [hC] at hlen
  match cs, hlen with
  | [c0, c1, c2, c3, c4, c5, c6], _ =>
    match xs, hxl with
    | [y0, y1, y2], _ =>
      have g0 : DataW.trod enc Tryz.prog w base (fun _ => true) held n' 39 (([c0, c1, c2, c3, c4, c5, c6].drop 0).take (Tryz.prog.cellsOf 39)) = some y0 := hf 0 _ rfl
      have g1 : DataW.trod enc Tryz.prog w base (fun _ => true) held n' 3 (([c0, c1, c2, c3, c4, c5, c6].drop 5).take (Tryz.prog.cellsOf 3)) = some y1 := hf 1 _ rfl
      have g2 : DataW.trod enc Tryz.prog w base (fun _ => true) held n' 4 (([c0, c1, c2, c3, c4, c5, c6].drop 6).take (Tryz.prog.cellsOf 4)) = some y2 := hf 2 _ rfl
      rw [hC5] at g0
      rw [hC1] at g1
      rw [hCb] at g2
      obtain ⟨y, hy⟩ := cm_cells g0
      obtain ⟨s5, e5, _, b5⟩ := DataW.trod_int Tryz.underlying3 g1
      obtain ⟨s6, e6, _⟩ := DataW.trod_bool Tryz.underlying4 g2
      simp at e5 e6
      simp [Cm.cells] at hy
      obtain ⟨rfl, rfl, rfl, rfl, rfl⟩ := hy
      subst e5 e6
      have b5 := bounds_i64 b5
      exact ⟨⟨⟨y.1, s5, s6⟩, y.2, b5.1, b5.2⟩, rfl⟩
theorem open_cops {H : Type} {enc : TypeId × Value → H} {w : World} {base : Nat} {held : Bool} {ao : Option Addr} {len cap : Nat} {d : DataW H} {p : List MemPlace}
    (h : DataW.Trod enc Tryz.prog w base (fun _ => true) held 22 (.slice ao len cap) d p) : ∃ l : List COp, l.length = len ∧ Rd w 7 l.length (.slice ao len cap) (l.flatMap COp.cells) ∧ ∀ o ∈ l, CmB o.c ∧ -9223372036854775808 ≤ o.now ∧ o.now ≤ 9223372036854775807 := by
  obtain ⟨l, hl, hr⟩ := open_rows (α := { o : COp // CmB o.c ∧ -9223372036854775808 ≤ o.now ∧ o.now ≤ 9223372036854775807 }) (cells := fun y => y.1.cells) (size := 7) Tryz.underlying22 (by kernel_rfl) (fun _ => rfl) (by omega) (fun n cs x hx => cop_cells hx) h
  refine ⟨l.map (·.1), by simpa using hl, ?_, fun y hy => ?_⟩
  · rw [List.flatMap_map, List.length_map]
    exact hr
  · obtain ⟨z, _, rfl⟩ := List.mem_map.1 hy
    exact z.2
end Go.Proofs.YtekcjoogggoijaaGreatDoor
namespace Go.Proofs.YtekcjoogggoijaaGreatDoor
open Go.RowKit
set_option maxRecDepth 100000

theorem nil_items (w : World) : Calls Tryz.prog 11 #[.pointer none] w fun e w' => e = .returned (.slice none 0 0) ∧ w = w' := by
  go_enter Tryz.func11, Tryz.ntmps11
  go_wp2_with fail
  go_ret
  exact ⟨rfl, rfl⟩
theorem nil_order (w : World) : Calls Tryz.prog 12 #[.pointer none] w fun e w' => e = .returned (.slice none 0 0) ∧ w = w' := by
  go_enter Tryz.func12, Tryz.ntmps12
  go_wp2_with fail
  go_ret
  exact ⟨rfl, rfl⟩
theorem nil_used (w : World) : Calls Tryz.prog 19 #[.pointer none] w fun e w' => e = .returned (.int .i64 0) ∧ w = w' := by
  go_enter Tryz.func19, Tryz.ntmps19
  go_wp2_with fail
  go_ret
  exact ⟨rfl, rfl⟩
theorem nil_gone (w : World) : Calls Tryz.prog 21 #[.pointer none] w fun e w' => e = .returned (.int .i64 0) ∧ w = w' := by
  go_enter Tryz.func21, Tryz.ntmps21
  go_wp2_with fail
  go_ret
  exact ⟨rfl, rfl⟩
theorem nil_do (x : Cm) (now : Int) (w : World) : Calls Tryz.prog 8 #[.pointer none, .agg #[.int .i64 x.op, .string x.key, .string x.val, .int .i64 x.num, .int .i64 x.ver], .int .i64 now] w fun e w' => e = .returned (rpV (Rp.err 7) (.slice none 0 0)) ∧ Kept (fun _ => False) w w' := by
  have hb : ((w.alloc (cmO x)).alloc (rpO (Rp.err 7) (.slice none 0 0))).heap[w.heap.size + 1]? = some (rpO (Rp.err 7) (.slice none 0 0)) := by
    rw [show w.heap.size + 1 = (w.alloc (cmO x)).heap.size by simp]
    exact heap_alloc_new _ _
  have HBL := Lib.hid hb
  clear hb
  go_enter Tryz.func8, Tryz.ntmps8
  go_wp2_with fail
  (try simp only [Exit.inBlock, Exit.then])
  refine bodyPost_ret (results_cell_row rfl _ _ (w.heap.size + 1) _ _ _ _ rfl HBL.out Tryz.underlying51 rfl rp_size) rfl ?_
  exact ⟨rfl, ((Kept.refl _ w).alloc _).alloc _⟩
theorem nil_doX (w : World) : Calls Tryz.prog 8 #[.pointer none, .agg #[.int .i64 13, .string ⟨#[]⟩, .string ⟨#[]⟩, .int .i64 0, .int .i64 0], .int .i64 1] w fun e w' => e = .returned (.agg #[.int .i64 7, .string ⟨#[]⟩, .int .i64 0, .int .i64 0, .slice none 0 0]) ∧ Kept (fun _ => False) w w' := nil_do ⟨13, ⟨#[]⟩, ⟨#[]⟩, 0, 0⟩ 1 w
end Go.Proofs.YtekcjoogggoijaaGreatDoor
