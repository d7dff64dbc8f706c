/-
  No table; the reference's hash; an argument that is a list of things to do to a table.
-/
import Derived.Test.YthdondhpgmjmpaaGreatTablePlays
import Derived.Test.YthdondhpgmjmpaaGreatHash
import Derived.Test.YthdondhpgmjmpaaGreatArgs
namespace Go.Proofs.YthdondhpgmjmpaaGreat
set_option linter.unusedVariables false
set_option linter.unusedSimpArgs false
set_option linter.unnecessarySimpa false
open Go.RowKit Go.Maps
set_option maxRecDepth 100000

set_option maxHeartbeats 800000 in
theorem refHash_any (s : ByteArray) (seed : Nat) (w : World) (hs : seed < 4294967296) (hsz : s.size ≤ 1000000000) :
    Calls Tryz.prog 12 #[.string s, .int .u32 (seed : Int)] w fun e w' => e = .returned (.int .u32 (hashN s seed : Nat)) ∧ w = w' := by
  have hx : bits .xor .u32 (seed : Int) 2166136261 = ((seed ^^^ 2166136261 : Nat) : Int) := u32_xor_nat seed 2166136261 hs (by omega)
  have hx0 := Lib.hid hx
  clear hx
  go_enter Tryz.func12, Tryz.ntmps12
  go_wp2_with fail
  go_loopg [5, 6] s.size (fun g x k wr => ∃ (i y : Nat), i + g = s.size ∧ k = .int .i64 (i : Int) ∧ x = .int .u32 (y : Int) ∧ y < 4294967296 ∧ (s.data.toList.take i).foldl hashStep (seed ^^^ 2166136261) = y ∧ w = wr)
  case atStart => exact ⟨0, seed ^^^ 2166136261, by omega, rfl, congrArg _ hx0.out, xor_lt32 hs (by omega), by simp, rfl⟩
  case round =>
    obtain ⟨i, y, hi, rfl, rfl, hy, hf, rfl⟩ := hrel
    have HF := Lib.hid hf
    clear hf
    by_cases hlt : (i : Int) < s.size
    · have hl : i < s.size := by omega
      go_wp2_with fail
      go_roundg (gk - 1)
      case measure => omega
      case rel => exact ⟨i + 1, _, by omega, by go_num, congrArg _ (hash_bits s[i] hy), hashStep_lt _ _, by rw [fold_next s _ hl, HF.out], rfl⟩
    · go_wp2_with fail
      go_ret
      have : i = s.size := by omega
      subst this
      rw [List.take_of_length_le (by simp)] at HF
      unfold hashN
      rw [HF.out]
      exact ⟨rfl, rfl⟩

theorem get_nil (k : ByteArray) (w : World) : Calls Tryz.prog 8 #[.pointer none, .string k] w fun e w' => e = .returned (.tuple #[.agg #[.string ⟨#[]⟩, .string ⟨#[]⟩, .int .i64 0, .int .i64 0], .bool false]) ∧ Kept (fun _ => False) w w' := by
  have hbox := heap_alloc_new w (.cells #[.string ByteArray.empty, .string ByteArray.empty, .int .i64 0, .int .i64 0] 39)
  have hk : Kept (fun k => k = w.heap.size) w (w.alloc (.cells #[.string ByteArray.empty, .string ByteArray.empty, .int .i64 0, .int .i64 0] 39)) := (Kept.refl _ _).alloc _
  have c0 := cell_at hbox 0
  have c1 := cell_at hbox 1
  have c2 := cell_at hbox 2
  have c3 := cell_at hbox 3
  have f0 := frozen_at hbox 0
  have f1 := frozen_at hbox 1
  have f2 := frozen_at hbox 2
  have f3 := frozen_at hbox 3
  simp at c0 c1 c2 c3
  have FIN := Lib.hid (fun (w2 : World) (h : Kept (fun k => k = w.heap.size) w w2) => (⟨h.os, h.tape, h.output, h.size, fun i hi _ => h.block i hi (by omega)⟩ : Kept (fun _ => False) w w2))
  have HK := Lib.hid hk
  clear hk
  go_enter Tryz.func8, Tryz.ntmps8
  go_wp2_with fail
  (try simp only [Exit.inBlock, Exit.then])
  refine bodyPost_ret (v := .tuple #[.agg #[.string ByteArray.empty, .string ByteArray.empty, .int .i64 0, .int .i64 0], .bool false]) ?_ rfl ?_
  · rw [results_cell_tmp rfl]
    go_simp
    try rfl
  · refine ⟨rfl, FIN.out _ ?_⟩
    exact HK.out
theorem put_nil (a : Array Value) (w : World) : Calls Tryz.prog 6 #[.pointer none, .agg a] w fun e w' => e = .returned (.bool false) ∧ Kept (fun _ => False) w w' := by
  go_enter Tryz.func6, Tryz.ntmps6
  go_wp2_with fail
  go_ret
  exact ⟨rfl, (Kept.refl _ _).alloc _⟩
theorem del_nil (k : ByteArray) (w : World) : Calls Tryz.prog 7 #[.pointer none, .string k] w fun e w' => e = .returned (.bool false) ∧ Kept (fun _ => False) w w' := by
  go_enter Tryz.func7, Tryz.ntmps7
  go_wp2_with fail
  go_ret
  exact ⟨rfl, Kept.refl _ _⟩
theorem len_nil (w : World) : Calls Tryz.prog 9 #[.pointer none] w fun e w' => e = .returned (.int .i64 0) ∧ w = w' := by
  go_enter Tryz.func9, Tryz.ntmps9
  go_wp2_with fail
  go_ret
  exact ⟨rfl, rfl⟩
theorem slots_nil (w : World) : Calls Tryz.prog 10 #[.pointer none] w fun e w' => e = .returned (.int .i64 0) ∧ w = w' := by
  go_enter Tryz.func10, Tryz.ntmps10
  go_wp2_with fail
  go_ret
  exact ⟨rfl, rfl⟩
theorem keys_nil (w : World) : Calls Tryz.prog 13 #[.pointer none] w fun e w' => e = .returned (.slice none 0 0) ∧ w = w' := by
  go_enter Tryz.func13, Tryz.ntmps13
  go_wp2_with fail
  go_ret
  exact ⟨rfl, rfl⟩

/-- Keys that are sorted rise. -/
theorem key_less {ks : List ByteArray} (hn : ks.Nodup) {j : Nat} (h0 : 0 < j) (h : j < (sortB ks).length) : Op.bytesLess ((sortB ks)[j - 1]'(by omega)).toList ((sortB ks)[j]'h).toList = true := by
  have h1 := List.pairwise_iff_getElem.1 (sortB_sorted ks) (j - 1) j (by omega) (by omega) (by omega)
  have h2 := List.pairwise_iff_getElem.1 ((sortB_perm ks).nodup_iff.2 hn) (j - 1) j (by omega) (by omega) (by omega)
  rw [ByteArray.toList_eq, ByteArray.toList_eq, bytesLess_eq]
  by_cases hlt : ((sortB ks)[j - 1]'(by omega)).data.toList < ((sortB ks)[j]'h).data.toList
  · exact decide_eq_true hlt
  · exact absurd (bytesLe_antisymm h1 (List.not_lt.1 hlt)) h2

/-- A new block of four cells, written at once. -/
theorem box4 (w : World) (T : TypeId) (z0 z1 z2 z3 c0 c1 c2 c3 : Value) : ∃ W, W = ((((w.alloc (.cells #[z0, z1, z2, z3] T)).setCell ⟨w.heap.size, 0, none⟩ c0).setCell ⟨w.heap.size, 1, none⟩ c1).setCell ⟨w.heap.size, 2, none⟩ c2).setCell ⟨w.heap.size, 3, none⟩ c3 ∧
    W.heap[w.heap.size]? = some (.cells #[c0, c1, c2, c3] T (0, 0)) ∧ Kept (fun _ => False) w W := by
  refine ⟨_, rfl, ?_, ?_⟩
  · have h0 := setCell_block (heap_alloc_new w (.cells #[z0, z1, z2, z3] T)) 0 c0
    have h1 := setCell_block h0 1 c1
    have h2 := setCell_block h1 2 c2
    have h3 := setCell_block h2 3 c3
    rw [h3]
    rfl
  · have hk : Kept (fun k => k = w.heap.size) w (w.alloc (.cells #[z0, z1, z2, z3] T)) := (Kept.refl _ _).alloc _
    have h := ((((hk.setCell (p := ⟨w.heap.size, 0, none⟩) (fun _ => rfl) c0).setCell (p := ⟨w.heap.size, 1, none⟩) (fun _ => rfl) c1).setCell (p := ⟨w.heap.size, 2, none⟩) (fun _ => rfl) c2).setCell (p := ⟨w.heap.size, 3, none⟩) (fun _ => rfl) c3)
    exact ⟨h.os, h.tape, h.output, h.size, fun i hi _ => h.block i hi (by omega)⟩

/-- A new block of one's own beside the three: where it lies, what else is as it was. -/
def Boxed (w : World) (xb : Nat) (cs : Array Value) (O F : Nat → Prop) (hb : Nat) : Prop := w.heap[xb]? = some (.cells cs 39 (0, 0)) ∧ ¬ O xb ∧ ¬ F xb ∧ xb ≠ hb
theorem Boxed.new {w wr : World} {b hb kb seed S : Nat} {L : List It} {O F : Nat → Prop} {Ls : List (List ByteArray)} (h : PlayT w wr b hb kb seed S L O F Ls) (cs : Array Value) : Boxed (wr.alloc (.cells cs 39)) wr.heap.size cs O F hb ∧ PlayT w (wr.alloc (.cells cs 39)) b hb kb seed S L O F Ls := by
  refine ⟨⟨heap_alloc_new _ _, fun e => ?_, fun e => ?_, fun e => ?_⟩, h.keep ((Kept.refl _ _).alloc _)⟩
  · have := h.tab.lt _ e; omega
  · have := h.book.lt _ e; omega
  · have := h.map.lt; omega
theorem Boxed.keep {w w' : World} {xb : Nat} {cs : Array Value} {O F : Nat → Prop} {hb : Nat} (h : Boxed w xb cs O F hb) (hk : Kept (fun _ => False) w w') : Boxed w' xb cs O F hb := ⟨(hk.block xb (lt_of_block h.1) (fun e => e)).trans h.1, h.2⟩
theorem Boxed.grew {w w' : World} {xb : Nat} {cs : Array Value} {O O' F : Nat → Prop} {hb : Nat} (h : Boxed w xb cs O F hb) (hg : Grew O w O' w') : Boxed w' xb cs O' F hb :=
  ⟨(hg.1.block xb (lt_of_block h.1) h.2.1).trans h.1, fun e => (hg.2 xb e).elim h.2.1 (fun e => by have := lt_of_block h.1; omega), h.2.2⟩
theorem Boxed.mapped {w w' : World} {xb : Nat} {cs : Array Value} {O F : Nat → Prop} {hb : Nat} (h : Boxed w xb cs O F hb) (hk : Kept (fun k => k = hb) w w') : Boxed w' xb cs O F hb := ⟨(hk.block xb (lt_of_block h.1) h.2.2.2).trans h.1, h.2⟩
theorem Boxed.cells {w : World} {xb : Nat} {x : It} {O F : Nat → Prop} {hb : Nat} (h : Boxed w xb #[.string x.key, .string x.val, .int .i64 x.ver, .int .i64 x.til] O F hb) :
    w.cell? ⟨xb, 0, none⟩ = some (.string x.key) ∧ w.cell? ⟨xb, 1, none⟩ = some (.string x.val) ∧ w.cell? ⟨xb, 2, none⟩ = some (.int .i64 x.ver) ∧ w.cell? ⟨xb, 3, none⟩ = some (.int .i64 x.til) :=
  ⟨cell_at h.1 0, cell_at h.1 1, cell_at h.1 2, cell_at h.1 3⟩
theorem gotV_eq (o : Option It) : gotV o = .tuple #[.agg #[.string (o.getD It.none).key, .string (o.getD It.none).val, .int .i64 (o.getD It.none).ver, .int .i64 (o.getD It.none).til], .bool o.isSome] := rfl

theorem got_is (L : List It) (k : ByteArray) : ∃ (y : It) (is : Bool), gotV (look L k) = .tuple #[.agg #[.string y.key, .string y.val, .int .i64 y.ver, .int .i64 y.til], .bool is] ∧ is = hasB L k := ⟨_, _, gotV_eq _, look_isSome L k⟩

/-- A thing to do to a table. -/
structure TOp where
  kind : Int
  x : It
def TOp.cells (o : TOp) : List Value := [.int .i64 o.kind, .string o.x.key, .string o.x.val, .int .i64 o.x.ver, .int .i64 o.x.til]
theorem flatMap_cell {α : Type} {c : α → List Value} {n : Nat} (hc : ∀ x, (c x).length = n) : ∀ (l : List α) (i : Nat) (hi : i < l.length) (j : Nat), j < n → (l.flatMap c)[i * n + j]? = (c l[i])[j]?
  | x :: t, 0, _, j, hj => by
    rw [List.flatMap_cons, Nat.zero_mul, Nat.zero_add, List.getElem?_append_left (by rw [hc]; exact hj)]
    rfl
  | x :: t, i + 1, hi, j, hj => by
    rw [List.flatMap_cons, List.getElem?_append_right (by rw [hc, Nat.add_mul]; omega), hc, show (i + 1) * n + j - n = i * n + j by rw [Nat.add_mul]; omega]
    exact flatMap_cell hc t i (by simpa using hi) j hj
theorem rd_op {w : World} {l : List TOp} {ao : Option Addr} {m c : Nat} (h : Rd w 5 l.length (.slice ao m c) (l.flatMap TOp.cells)) (i : Nat) (hi : i < l.length) :
    ∃ g off, ao = some ⟨g, off, none⟩ ∧ w.cell? ⟨g, off + i * 5, none⟩ = some (.int .i64 (l[i]).kind) ∧ w.cell? ⟨g, off + i * 5 + 1, none⟩ = some (.string (l[i]).x.key) ∧ w.cell? ⟨g, off + i * 5 + 2, none⟩ = some (.string (l[i]).x.val) ∧
      w.cell? ⟨g, off + i * 5 + 3, none⟩ = some (.int .i64 (l[i]).x.ver) ∧ w.cell? ⟨g, off + i * 5 + 4, none⟩ = some (.int .i64 (l[i]).x.til) := by
  obtain ⟨_, _, hc⟩ := h.at
  have f := fun j hj => flatMap_cell (c := TOp.cells) (n := 5) (fun _ => rfl) l i hi j hj
  obtain ⟨g, off, rfl, h0⟩ := hc _ _ ((f 0 (by omega)).trans rfl)
  have go : ∀ (j : Nat) (u : Value), j < 5 → (l[i]).cells[j]? = some u → w.cell? ⟨g, off + i * 5 + j, none⟩ = some u := fun j u hj hu => by
    obtain ⟨g', off', e, h'⟩ := hc _ u ((f j hj).trans hu)
    injection e with e
    injection e with e1 e2
    subst e1 e2
    rw [Nat.add_assoc]
    exact h'
  exact ⟨g, off, rfl, by simpa using go 0 _ (by omega) rfl, go 1 _ (by omega) rfl, go 2 _ (by omega) rfl, go 3 _ (by omega) rfl, go 4 _ (by omega) rfl⟩
end Go.Proofs.YthdondhpgmjmpaaGreat
