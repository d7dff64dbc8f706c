/-
  Arguments that are lists of users, and of things that users do.
-/
import Derived.Test.YtgfpcjieonniiaaGreatUserC
import Derived.Test.YtgfpcjieonniiaaGreatArgs
namespace Go.Proofs.YtgfpcjieonniiaaGreat
set_option linter.unusedVariables false
set_option linter.unusedSimpArgs false
set_option linter.unnecessarySimpa false
open Go.ChangeShapes Go.WideShapes Go.ChangeAt Go.RowKit Go.Deep
set_option maxRecDepth 100000

theorem usr_arg {H : Type} {enc : TypeId × Value → H} {w : World} {base : Nat} {held : Bool} {n : Nat} {cs : List Value} {x : DataW H × List MemPlace} (hx : DataW.trod enc Tryz.prog w base (fun _ => true) held n 32 cs = some x) :
    ∃ y : { p : ByteArray × ByteArray // p.1.size ≤ maxLen ∧ p.2.size ≤ maxLen }, cs = userCells y.1 := by
  have hC : Tryz.prog.cellsOf 32 = 2 := by kernel_rfl
  have hC1 : Tryz.prog.cellsOf 9 = 1 := by kernel_rfl
  obtain ⟨y0, y1, n', _, hlen, h0, h1⟩ := trod_struct2 Tryz.underlying32 hx
  rw [hC] at hlen
  match cs, hlen with
  | [c0, c1], _ =>
    rw [hC1] at h0 h1
    obtain ⟨s0, e0, _, b0⟩ := DataW.trod_string Tryz.underlying9 h0
    obtain ⟨s1, e1, _, b1⟩ := DataW.trod_string Tryz.underlying9 h1
    simp at e0 e1
    subst e0 e1
    exact ⟨⟨(s0, s1), b0, b1⟩, rfl⟩
theorem open_users {H : Type} {enc : TypeId × Value → H} {w : World} {base : Nat} {held : Bool} {ao : Option Addr} {len cap : Nat} {d : DataW H} {p : List MemPlace}
    (h : DataW.Trod enc Tryz.prog w base (fun _ => true) held 22 (.slice ao len cap) d p) : ∃ l : List (ByteArray × ByteArray), l.length = len ∧ Rd w 2 l.length (.slice ao len cap) (l.flatMap userCells) ∧ ∀ x ∈ l, x.1.size ≤ maxLen ∧ x.2.size ≤ maxLen := by
  obtain ⟨l, hl, hr⟩ := open_rows (α := { p : ByteArray × ByteArray // p.1.size ≤ maxLen ∧ p.2.size ≤ maxLen }) (cells := fun y => userCells y.1) (size := 2) Tryz.underlying22 (by kernel_rfl) (fun _ => rfl) (by omega) (fun n cs x hx => usr_arg hx) h
  refine ⟨l.map (·.1), by simpa using hl, ?_, fun y hy => ?_⟩
  · rw [List.flatMap_map, List.length_map]
    exact hr
  · obtain ⟨z, _, rfl⟩ := List.mem_map.1 hy
    exact z.2

/-- A thing that a user does. -/
structure UOp where
  kind : Int
  now : Int
  name : ByteArray
def UOp.cells (o : UOp) : List Value := [.int .i64 o.kind, .int .i64 o.now, .string o.name]
theorem rd_uop {w : World} {l : List UOp} {ao : Option Addr} {m c : Nat} (h : Rd w 3 l.length (.slice ao m c) (l.flatMap UOp.cells)) (i : Nat) (hi : i < l.length) :
    ∃ g off, ao = some ⟨g, off, none⟩ ∧ w.cell? ⟨g, off + i * 3, none⟩ = some (.int .i64 (l[i]).kind) ∧ w.cell? ⟨g, off + i * 3 + 1, none⟩ = some (.int .i64 (l[i]).now) ∧ w.cell? ⟨g, off + i * 3 + 2, none⟩ = some (.string (l[i]).name) := by
  obtain ⟨_, _, hc⟩ := h.at
  have f := fun j hj => flatMap_at (cells := UOp.cells) (size := 3) (fun _ => rfl) l i hi j hj
  obtain ⟨g, off, rfl, h0⟩ := hc _ _ ((f 0 (by omega)).trans rfl)
  have go : ∀ (j : Nat) (u : Value), j < 3 → (l[i]).cells[j]? = some u → w.cell? ⟨g, off + i * 3 + j, none⟩ = some u := fun j u hj hu => by
    obtain ⟨g', off', e, h'⟩ := hc _ u ((f j hj).trans hu)
    injection e with e
    injection e with e1 e2
    subst e1 e2
    rw [Nat.add_assoc]
    exact h'
  exact ⟨g, off, rfl, by simpa using h0, go 1 _ (by omega) rfl, go 2 _ (by omega) rfl⟩
theorem uop_arg {H : Type} {enc : TypeId × Value → H} {w : World} {base : Nat} {held : Bool} {n : Nat} {cs : List Value} {x : DataW H × List MemPlace} (hx : DataW.trod enc Tryz.prog w base (fun _ => true) held n 57 cs = some x) :
    ∃ y : { o : UOp // -9223372036854775808 ≤ o.now ∧ o.now ≤ 9223372036854775807 ∧ o.name.size ≤ maxLen }, cs = y.1.cells := by
  have hC : Tryz.prog.cellsOf 57 = 3 := by kernel_rfl
  have hone : oneCellFields Tryz.prog #[{ name := "Kind", type := 3, offset := 0, embedded := false, tag := "", pkgPath := "", byteOffset := 0 }, { name := "Now", type := 3, offset := 1, embedded := false, tag := "", pkgPath := "", byteOffset := 8 },
    { name := "Name", type := 9, offset := 2, embedded := false, tag := "", pkgPath := "", byteOffset := 16 }] = true := by kernel_rfl
  obtain ⟨xs, n', _, _, hlen, hxl, hf⟩ := DataW.trod_struct Tryz.underlying57 hx
  rw [hC] at hlen
  match cs, hlen with
  | [c0, c1, c2], _ =>
    match xs, hxl with
    | [y0, y1, y2], _ =>
      obtain ⟨o0, k0⟩ := hone_of hone 0 _ rfl
      obtain ⟨o1, k1⟩ := hone_of hone 1 _ rfl
      obtain ⟨o2, k2⟩ := hone_of hone 2 _ rfl
      have g0 := hf 0 _ rfl
      have g1 := hf 1 _ rfl
      have g2 := hf 2 _ rfl
      rw [k0] at g0
      rw [k1] at g1
      rw [k2] at g2
      obtain ⟨s0, e0, _, _⟩ := DataW.trod_int Tryz.underlying3 g0
      obtain ⟨s1, e1, _, b1⟩ := DataW.trod_int Tryz.underlying3 g1
      obtain ⟨s2, e2, _, b2⟩ := DataW.trod_string Tryz.underlying9 g2
      simp at e0 e1 e2
      subst e0 e1 e2
      have b1 := bounds_i64 b1
      exact ⟨⟨⟨s0, s1, s2⟩, b1.1, b1.2, b2⟩, rfl⟩
theorem open_uops {H : Type} {enc : TypeId × Value → H} {w : World} {base : Nat} {held : Bool} {ao : Option Addr} {len cap : Nat} {d : DataW H} {p : List MemPlace}
    (h : DataW.Trod enc Tryz.prog w base (fun _ => true) held 23 (.slice ao len cap) d p) : ∃ l : List UOp, l.length = len ∧ Rd w 3 l.length (.slice ao len cap) (l.flatMap UOp.cells) ∧ ∀ o ∈ l, -9223372036854775808 ≤ o.now ∧ o.now ≤ 9223372036854775807 ∧ o.name.size ≤ maxLen := by
  obtain ⟨l, hl, hr⟩ := open_rows (α := { o : UOp // -9223372036854775808 ≤ o.now ∧ o.now ≤ 9223372036854775807 ∧ o.name.size ≤ maxLen }) (cells := fun y => y.1.cells) (size := 3) Tryz.underlying23 (by kernel_rfl) (fun _ => rfl) (by omega) (fun n cs x hx => uop_arg hx) h
  refine ⟨l.map (·.1), by simpa using hl, ?_, fun y hy => ?_⟩
  · rw [List.flatMap_map, List.length_map]
    exact hr
  · obtain ⟨z, _, rfl⟩ := List.mem_map.1 hy
    exact z.2
end Go.Proofs.YtgfpcjieonniiaaGreat
