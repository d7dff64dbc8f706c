/-
  Arguments that are commands, slices of commands, items.
-/
import Derived.Test.YtehpafebpgndeaaGreatDoorCacheV
import Derived.Test.YtehpafebpgndeaaGreatDoorArgs
namespace Go.Proofs.YtehpafebpgndeaaGreatDoor
set_option linter.unusedVariables false
set_option linter.unusedSimpArgs false
set_option linter.unnecessarySimpa false
open Go.ChangeShapes Go.WideShapes Go.ChangeAt Go.RowKit Go.Deep
set_option maxRecDepth 100000

/-- A command that may come in. -/
structure CmB (x : Cm) : Prop where
  o0 : -9223372036854775808 ≤ x.op
  o1 : x.op ≤ 9223372036854775807
  k : x.key.size ≤ maxLen
  v : x.val.size ≤ maxLen
  n0 : -9223372036854775808 ≤ x.num
  n1 : x.num ≤ 9223372036854775807
  r0 : -9223372036854775808 ≤ x.ver
  r1 : x.ver ≤ 9223372036854775807
theorem cm_cells {H : Type} {enc : TypeId × Value → H} {w : World} {base : Nat} {held : Bool} {n : Nat} {cs : List Value} {x : DataW H × List MemPlace} (hx : DataW.trod enc Tryz.prog w base (fun _ => true) held n 32 cs = some x) :
    ∃ y : { x : Cm // CmB x }, cs = y.1.cells := by
  have hC : Tryz.prog.cellsOf 32 = 5 := by kernel_rfl
  have hone : oneCellFields Tryz.prog #[{ name := "Op", type := 3, offset := 0, embedded := false, tag := "", pkgPath := "", byteOffset := 0 }, { name := "Key", type := 9, offset := 1, embedded := false, tag := "", pkgPath := "", byteOffset := 8 },
    { name := "Value", type := 9, offset := 2, embedded := false, tag := "", pkgPath := "", byteOffset := 24 }, { name := "Num", type := 3, offset := 3, embedded := false, tag := "", pkgPath := "", byteOffset := 40 }, { name := "Ver", type := 3, offset := 4, embedded := false, tag := "", pkgPath := "", byteOffset := 48 }] = true := by kernel_rfl
  obtain ⟨xs, n', _, _, hlen, hxl, hf⟩ := DataW.trod_struct Tryz.underlying32 hx
  rw [hC] at hlen
  match cs, hlen with
  | [c0, c1, c2, c3, c4], _ =>
    match xs, hxl with
    | [y0, y1, y2, y3, y4], _ =>
      obtain ⟨o0, k0⟩ := hone_of hone 0 _ rfl
      obtain ⟨o1, k1⟩ := hone_of hone 1 _ rfl
      obtain ⟨o2, k2⟩ := hone_of hone 2 _ rfl
      obtain ⟨o3, k3⟩ := hone_of hone 3 _ rfl
      obtain ⟨o4, k4⟩ := hone_of hone 4 _ rfl
      have g0 := hf 0 _ rfl
      have g1 := hf 1 _ rfl
      have g2 := hf 2 _ rfl
      have g3 := hf 3 _ rfl
      have g4 := hf 4 _ rfl
      rw [k0] at g0
      rw [k1] at g1
      rw [k2] at g2
      rw [k3] at g3
      rw [k4] at g4
      obtain ⟨s0, e0, _, b0⟩ := DataW.trod_int Tryz.underlying3 g0
      obtain ⟨s1, e1, _, b1⟩ := DataW.trod_string Tryz.underlying9 g1
      obtain ⟨s2, e2, _, b2⟩ := DataW.trod_string Tryz.underlying9 g2
      obtain ⟨s3, e3, _, b3⟩ := DataW.trod_int Tryz.underlying3 g3
      obtain ⟨s4, e4, _, b4⟩ := DataW.trod_int Tryz.underlying3 g4
      simp at e0 e1 e2 e3 e4
      subst e0 e1 e2 e3 e4
      have b0 := bounds_i64 b0
      have b3 := bounds_i64 b3
      have b4 := bounds_i64 b4
      exact ⟨⟨⟨s0, s1, s2, s3, s4⟩, ⟨b0.1, b0.2, b1, b2, b3.1, b3.2, b4.1, b4.2⟩⟩, rfl⟩
theorem open_cms {H : Type} {enc : TypeId × Value → H} {w : World} {base : Nat} {held : Bool} {ao : Option Addr} {len cap : Nat} {d : DataW H} {p : List MemPlace}
    (h : DataW.Trod enc Tryz.prog w base (fun _ => true) held 52 (.slice ao len cap) d p) : ∃ l : List Cm, l.length = len ∧ Rd w 5 l.length (.slice ao len cap) (flatC l) ∧ ∀ x ∈ l, CmB x := by
  have hC : Tryz.prog.cellsOf 32 = 5 := by kernel_rfl
  obtain ⟨l, hl, hr⟩ := open_rows (cells := fun y : { x : Cm // CmB x } => y.1.cells) Tryz.underlying52 hC (fun _ => rfl) (by omega) (fun n cs x hx => cm_cells hx) h
  refine ⟨l.map (·.1), by rw [List.length_map]; exact hl, ?_, fun x hx => ?_⟩
  · have e : flatC (l.map (·.1)) = l.flatMap (fun y => y.1.cells) := by unfold flatC; rw [List.flatMap_map]
    rw [List.length_map, e]
    exact hr
  · obtain ⟨y, _, rfl⟩ := List.mem_map.1 hx
    exact y.2
theorem open_cm {H : Type} {enc : TypeId × Value → H} {w : World} {base b0 : Nat} {held : Bool} {v : Value} {d : DataW H} {p : List MemPlace}
    (hv : Value.okWide Tryz.prog w .any b0 32 v) (h : DataW.Trod enc Tryz.prog w base (fun _ => true) held 32 v d p) : ∃ x : Cm, v = .agg #[.int .i64 x.op, .string x.key, .string x.val, .int .i64 x.num, .int .i64 x.ver] ∧ CmB x := by
  obtain ⟨cs, rfl, _⟩ := okWide_struct Tryz.underlying32 hv
  obtain ⟨fuel, hf⟩ := h
  obtain ⟨y, hy⟩ := cm_cells hf
  refine ⟨y.1, ?_, y.2⟩
  simp [Value.cells] at hy
  congr 1
  exact Array.ext' (by simpa [Cm.cells] using hy)
end Go.Proofs.YtehpafebpgndeaaGreatDoor
