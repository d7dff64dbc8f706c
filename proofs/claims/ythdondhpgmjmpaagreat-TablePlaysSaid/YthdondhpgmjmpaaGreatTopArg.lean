/-
  An argument that is a list of things to do to a table.
-/
import Derived.Test.YthdondhpgmjmpaaGreatTableNil
import Derived.Test.YthdondhpgmjmpaaGreatArgs
namespace Go.Proofs.YthdondhpgmjmpaaGreat
set_option linter.unusedVariables false
set_option linter.unusedSimpArgs false
set_option linter.unnecessarySimpa false
open Go.ChangeShapes Go.WideShapes Go.ChangeAt Go.RowKit Go.Deep
set_option maxRecDepth 100000

theorem it_cellsT {H : Type} {enc : TypeId × Value → H} {w : World} {base : Nat} {held : Bool} {n : Nat} {cs : List Value} {x : DataW H × List MemPlace} (hx : DataW.trod enc Tryz.prog w base (fun _ => true) held n 39 cs = some x) :
    ∃ y : It, cs = y.cells := by
  have hC : Tryz.prog.cellsOf 39 = 4 := by kernel_rfl
  have hone : oneCellFields Tryz.prog #[{ name := "Key", type := 9, offset := 0, embedded := false, tag := "", pkgPath := "", byteOffset := 0 }, { name := "Value", type := 9, offset := 1, embedded := false, tag := "", pkgPath := "", byteOffset := 16 },
    { name := "Ver", type := 3, offset := 2, embedded := false, tag := "", pkgPath := "", byteOffset := 32 }, { name := "Until", type := 3, offset := 3, embedded := false, tag := "", pkgPath := "", byteOffset := 40 }] = true := by kernel_rfl
  obtain ⟨xs, n', _, _, hlen, hxl, hf⟩ := DataW.trod_struct Tryz.underlying39 hx
  rw [hC] at hlen
  match cs, hlen with
  | [c0, c1, c2, c3], _ =>
    match xs, hxl with
    | [y0, y1, y2, y3], _ =>
      obtain ⟨o0, k0⟩ := hone_of hone 0 _ rfl
      obtain ⟨o1, k1⟩ := hone_of hone 1 _ rfl
      obtain ⟨o2, k2⟩ := hone_of hone 2 _ rfl
      obtain ⟨o3, k3⟩ := hone_of hone 3 _ rfl
      have g0 := hf 0 _ rfl
      have g1 := hf 1 _ rfl
      have g2 := hf 2 _ rfl
      have g3 := hf 3 _ rfl
      rw [k0] at g0
      rw [k1] at g1
      rw [k2] at g2
      rw [k3] at g3
      obtain ⟨s0, e0, _, b0⟩ := DataW.trod_string Tryz.underlying9 g0
      obtain ⟨s1, e1, _, b1⟩ := DataW.trod_string Tryz.underlying9 g1
      obtain ⟨s2, e2, _, _⟩ := DataW.trod_int Tryz.underlying3 g2
      obtain ⟨s3, e3, _, _⟩ := DataW.trod_int Tryz.underlying3 g3
      simp at e0 e1 e2 e3
      subst e0 e1 e2 e3
      exact ⟨⟨s0, s1, s2, s3⟩, rfl⟩
theorem top_cells {H : Type} {enc : TypeId × Value → H} {w : World} {base : Nat} {held : Bool} {n : Nat} {cs : List Value} {x : DataW H × List MemPlace} (hx : DataW.trod enc Tryz.prog w base (fun _ => true) held n 41 cs = some x) :
    ∃ o : TOp, cs = o.cells := by
  have hC : Tryz.prog.cellsOf 41 = 5 := by kernel_rfl
  have hC4 : Tryz.prog.cellsOf 39 = 4 := by kernel_rfl
  have hC1 : Tryz.prog.cellsOf 3 = 1 := by kernel_rfl
  obtain ⟨y0, y1, n', _, hlen, h0, h1⟩ := trod_struct2 Tryz.underlying41 hx
  rw [hC] at hlen
  match cs, hlen with
  | [c0, c1, c2, c3, c4], _ =>
    obtain ⟨y, hy⟩ := it_cellsT h1
    rw [hC4] at hy
    rw [hC1] at h0
    obtain ⟨k, e0, _, _⟩ := DataW.trod_int Tryz.underlying3 h0
    simp at e0
    simp [It.cells] at hy
    obtain ⟨rfl, rfl, rfl, rfl⟩ := hy
    subst e0
    exact ⟨⟨k, y⟩, rfl⟩
theorem open_tops {H : Type} {enc : TypeId × Value → H} {w : World} {base : Nat} {held : Bool} {ao : Option Addr} {len cap : Nat} {d : DataW H} {p : List MemPlace}
    (h : DataW.Trod enc Tryz.prog w base (fun _ => true) held 23 (.slice ao len cap) d p) : ∃ l : List TOp, l.length = len ∧ Rd w 5 l.length (.slice ao len cap) (l.flatMap TOp.cells) :=
  open_rows (cells := TOp.cells) Tryz.underlying23 (by kernel_rfl) (fun _ => rfl) (by omega) (fun n cs x hx => top_cells hx) h
end Go.Proofs.YthdondhpgmjmpaaGreat
