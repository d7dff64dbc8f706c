/-
  An argument that is an item; Cost of whatever item.
-/
import Derived.Test.YtehpafebpgndeaaGreatDoorCacheV
import Derived.Test.YtehpafebpgndeaaGreatDoorArgs
namespace Go.Proofs.YtehpafebpgndeaaGreatDoor
set_option linter.unusedVariables false
set_option linter.unusedSimpArgs false
set_option linter.unnecessarySimpa false
open Go.ChangeShapes Go.WideShapes Go.ChangeAt Go.RowKit Go.Deep
set_option maxRecDepth 100000

theorem it_cells {H : Type} {enc : TypeId × Value → H} {w : World} {base : Nat} {held : Bool} {n : Nat} {cs : List Value} {x : DataW H × List MemPlace} (hx : DataW.trod enc Tryz.prog w base (fun _ => true) held n 23 cs = some x) :
    ∃ y : { x : It // x.key.size ≤ maxLen ∧ x.val.size ≤ maxLen }, cs = y.1.cells := by
  have hC : Tryz.prog.cellsOf 23 = 4 := by kernel_rfl
  have hone : oneCellFields Tryz.prog #[{ name := "Key", type := 9, offset := 0, embedded := false, tag := "", pkgPath := "", byteOffset := 0 }, { name := "Value", type := 9, offset := 1, embedded := false, tag := "", pkgPath := "", byteOffset := 16 },
    { name := "Ver", type := 3, offset := 2, embedded := false, tag := "", pkgPath := "", byteOffset := 32 }, { name := "Until", type := 3, offset := 3, embedded := false, tag := "", pkgPath := "", byteOffset := 40 }] = true := by kernel_rfl
  obtain ⟨xs, n', _, _, hlen, hxl, hf⟩ := DataW.trod_struct Tryz.underlying23 hx
  rw [hC] at hlen
  match cs, hlen with
  | [c0, c1, c2, c3], _ =>
    match xs, hxl with
    | [y0, y1, y2, y3], _ =>
      obtain ⟨o0, k0⟩ := hone_of hone 0 _ rfl
      obtain ⟨o1, k1⟩ := hone_of hone 1 _ rfl
      obtain ⟨o2, k2⟩ := hone_of hone 2 _ rfl
      obtain ⟨o3, k3⟩ := hone_of hone 3 _ rfl
      have g0 := hf 0 _ rfl
      have g1 := hf 1 _ rfl
      have g2 := hf 2 _ rfl
      have g3 := hf 3 _ rfl
      rw [k0] at g0
      rw [k1] at g1
      rw [k2] at g2
      rw [k3] at g3
      obtain ⟨s0, e0, _, b0⟩ := DataW.trod_string Tryz.underlying9 g0
      obtain ⟨s1, e1, _, b1⟩ := DataW.trod_string Tryz.underlying9 g1
      obtain ⟨s2, e2, _, _⟩ := DataW.trod_int Tryz.underlying3 g2
      obtain ⟨s3, e3, _, _⟩ := DataW.trod_int Tryz.underlying3 g3
      simp at e0 e1 e2 e3
      subst e0 e1 e2 e3
      exact ⟨⟨⟨s0, s1, s2, s3⟩, b0, b1⟩, rfl⟩
theorem open_it {H : Type} {enc : TypeId × Value → H} {w : World} {base b0 : Nat} {held : Bool} {v : Value} {d : DataW H} {p : List MemPlace}
    (hv : Value.okWide Tryz.prog w .any b0 23 v) (h : DataW.Trod enc Tryz.prog w base (fun _ => true) held 23 v d p) : ∃ x : It, v = .agg #[.string x.key, .string x.val, .int .i64 x.ver, .int .i64 x.til] ∧ x.key.size ≤ maxLen ∧ x.val.size ≤ maxLen := by
  obtain ⟨cs, rfl, _⟩ := okWide_struct Tryz.underlying23 hv
  obtain ⟨fuel, hf⟩ := h
  obtain ⟨y, hy⟩ := it_cells hf
  refine ⟨y.1, ?_, y.2⟩
  simp [Value.cells] at hy
  congr 1
  exact Array.ext' (by simpa [It.cells] using hy)
end Go.Proofs.YtehpafebpgndeaaGreatDoor
