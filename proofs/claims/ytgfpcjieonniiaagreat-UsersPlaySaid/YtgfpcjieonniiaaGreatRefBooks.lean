/-
  The reference's Books: a new one.
-/
import Derived.Test.YtgfpcjieonniiaaGreatTidy
namespace Go.Proofs.YtgfpcjieonniiaaGreat
set_option linter.unusedVariables false
set_option linter.unusedSimpArgs false
set_option linter.unnecessarySimpa false
open Go.RowKit
set_option maxRecDepth 100000

theorem intR_info : (Tryz.prog.info? 3).map (fun i => (i.zero, i.size, i.bytes)) = some (some (.int .i64 0), 1, 8) := by kernel_rfl
theorem boolR_info : (Tryz.prog.info? 4).map (fun i => (i.zero, i.size, i.bytes)) = some (some (.bool false), 1, 1) := by kernel_rfl

theorem alloc_at (W : World) (o : Obj) (b : Nat) (h : b = W.heap.size) : (W.alloc o).heap[b]? = some o := h ▸ heap_alloc_new W o
theorem made_row {E : TypeId} (w : World) (z : Value) (N : Nat) (c : Array Value) (hc : c.toList = List.replicate N z) (hN : N ≤ maxLen) (b : Nat) (hb : b = w.heap.size) : Sl (w.alloc (.cells c E)) E 1 N (.slice (some ⟨b, 0, none⟩) N N) (List.replicate N z) := by
  subst hb
  have hsz : c.size = N := by rw [← Array.length_toList, hc, List.length_replicate]
  refine ⟨by simp, .inr ⟨w.heap.size, 0, N, c, rfl, heap_alloc_new _ _, Nat.le_refl _, hN, by omega, ?_⟩⟩
  rw [hc, List.drop_zero, Nat.mul_one, List.take_of_length_le (by simp)]

theorem made_int (N : Nat) : (madeCells (Value.int .i64 0).cells N).toList = List.replicate N (.int .i64 0) := by simp [madeCells, Value.cells, Nat.mod_one, List.map_const']
theorem made_bool (N : Nat) : (madeCells (Value.bool false).cells N).toList = List.replicate N (.bool false) := by simp [madeCells, Value.cells, Nat.mod_one, List.map_const']
/-- A new reference: nobody has failed. -/
structure Unfailed (L : List Usr) (l : List (ByteArray × ByteArray)) : Prop where
  users : L.flatMap refCells = l.flatMap userCells
  fails : (L.map fun x => Value.int .i64 x.fails) = List.replicate L.length (.int .i64 0)
  till : (L.map fun x => Value.int .i64 x.till) = List.replicate L.length (.int .i64 0)
  locked : (L.map fun x => Value.bool x.locked) = List.replicate L.length (.bool false)

set_option maxHeartbeats 4000000 in
theorem books_any (v : Value) (l : List (ByteArray × ByteArray)) (w : World) (hl : Rd w 2 l.length v (l.flatMap userCells)) (hn : l.length ≤ 1000) (h0 : 0 < l.length) (L : List Usr) (hL : L.length = l.length) (hU : Unfailed L l) :
    Calls Tryz.prog 10 #[v] w fun e w' => ∃ rb G vL vF vU vK, e = .returned (.pointer (some ⟨rb, 0, none⟩)) ∧ RefAt w' rb G vL vF vU vK L ∧ Kept (fun _ => False) w w' ∧ ∀ k, G k → w.heap.size ≤ k := by
  obtain ⟨i0, hi0, hz0, hz1, hz2⟩ := info_parts usr_info
  obtain ⟨i1, hi1, kz0, kz1, kz2⟩ := info_parts intR_info
  obtain ⟨i2, hi2, bz0, bz1, bz2⟩ := info_parts boolR_info
  obtain ⟨ao, ca, rfl, hca⟩ := hl.shape
  obtain ⟨N, hN⟩ : ∃ N, N = l.length := ⟨_, rfl⟩
  rw [← hN] at hca hn h0 hL ⊢
  have hmk := fun W => run_make (P := Tryz.prog) W 52 3 i1 _ Tryz.underlying52 hi1 kz0 .i64 .i64 (N : Int) (N : Int) (by omega) (Int.le_refl _) (by rw [kz2]; omega) (by omega)
  have hmb := fun W => run_make (P := Tryz.prog) W 53 4 i2 _ Tryz.underlying53 hi2 bz0 .i64 .i64 (N : Int) (N : Int) (by omega) (Int.le_refl _) (by rw [bz2]; omega) (by omega)
  simp at hmk hmb
  have hfl : (l.flatMap userCells).length = N * 2 := by rw [hN]; exact (Rd.at hl).2.2 |> fun _ => hl.1
  have H1 := Lib.hid (show ∀ u ∈ l.flatMap userCells, u.oneCell' = true from fun u hu => by
    obtain ⟨x, _, hx⟩ := List.mem_flatMap.1 hu
    simp [userCells] at hx
    rcases hx with rfl | rfl <;> rfl)
  obtain ⟨g, off, cp, hv, _, _, hcells⟩ := hl.base (by omega) (by omega)
  injection hv with e1 _ e3
  subst e1 e3
  have HC := Lib.hid (fun (W : World) (hk : Kept (fun _ => False) w W) (j : Nat) (u : Value) (hu : (l.flatMap userCells)[j]? = some u) => (show W.cell? ((⟨g, off, none⟩ : Addr).add j) = some u by rw [Addr.add_lit]; exact hk.cell0 (hcells j u hu)))
  have b1 : 0 + N ≤ maxLen := by unfold maxLen; omega
  have b2 : (0 + N) * 32 ≤ 140737488355328 := by omega
  have HFL := Lib.hid hfl
  have HN := Lib.hid hN
  clear hl hN hcells hfl
  have hmi : (madeCells (Value.int .i64 0).cells (N * i1.size)).toList = List.replicate N (.int .i64 0) := by rw [kz1, Nat.mul_one]; exact made_int N
  have hmb2 : (madeCells (Value.bool false).cells (N * i2.size)).toList = List.replicate N (.bool false) := by rw [bz1, Nat.mul_one]; exact made_bool N
  have hmx : N ≤ maxLen := by unfold maxLen; omega
  have HMI := Lib.hid hmi
  have HMB := Lib.hid hmb2
  have HU1 := Lib.hid hU.users
  have HU2 := Lib.hid hU.fails
  have HU3 := Lib.hid hU.till
  have HU4 := Lib.hid hU.locked
  rw [hL] at HU2 HU3 HU4
  have HLL := Lib.hid hL
  clear hmi hmb2 hU hL
  generalize madeCells (Value.int .i64 0).cells (N * i1.size) = mi at *
  generalize madeCells (Value.bool false).cells (N * i2.size) = mb at *
  generalize l.flatMap userCells = xs at *
  go_enter Tryz.func10, Tryz.ntmps10
  go_wp2_with fail
  go_region_law (first
    | (refine step_append_sl2 _ rfl (.const (.slice none 0 0)) (.tmp 3) 22 rfl 32 i0 _ 2 32 Tryz.underlying22 hi0 hz0 hz1 hz2 rfl (by decide) (.slice none 0 0) 0 [] (by kernel_rfl) (Sl.nil _ _ _) ⟨g, off, none⟩ N ca xs (by kernel_rfl) HFL.out (HC.out _ (by first | exact (Kept.refl _ _).drew | exact ((Kept.refl _ _).drew).alloc _ | exact (((Kept.refl _ _).drew).alloc _).alloc _ | exact ((((Kept.refl _ _).drew).alloc _).alloc _).alloc _)) H1.out h0 b1 b2 ?_; intro g4 off4 cap4 w5 h1 h2 h3; obtain ⟨hg5, hk5⟩ := h3.resolve_left (fun e => by cases e); have hs5 := hk5.size; have hl5 := h1.lt (k := g4) rfl; have S5 := Lib.hid h1; have K5 := Lib.hid hk5; clear h1 h2 h3 hk5))
  all_goals
    go_wp2_with fail
    go_ret
    simp at hg5 hs5
    rw [Nat.zero_add] at S5
    refine ⟨_, _, _, _, _, _, rfl, ⟨alloc_at _ _ _ (by first | rfl | simp), ?_, ?_, ?_, ?_, fun k => Iff.rfl, ?_, ?_, ?_⟩, ?_, ?_⟩
    · rw [HLL.out, HU1.out]
      repeat (first | exact (by simpa using S5.out) | refine Sl.alloc ?_ _ | refine Sl.kept ?_ K5.out (fun _ _ h => h))
    · rw [HLL.out, HU2.out]
      repeat (first | (refine made_row _ _ N mi HMI.out hmx _ ?_; first | rfl | (simp; done)) | refine Sl.alloc ?_ _ | refine Sl.kept ?_ K5.out (fun _ _ h => h))
    · rw [HLL.out, HU3.out]
      repeat (first | (refine made_row _ _ N mi HMI.out hmx _ ?_; first | rfl | (simp; done)) | refine Sl.alloc ?_ _ | refine Sl.kept ?_ K5.out (fun _ _ h => h))
    · rw [HLL.out, HU4.out]
      repeat (first | (refine made_row _ _ N mb HMB.out hmx _ ?_; first | rfl | (simp; done)) | refine Sl.alloc ?_ _ | refine Sl.kept ?_ K5.out (fun _ _ h => h))
    · intro k hk
      simp only [Value.ownBlock, Option.some.injEq, ne_eq] at hk ⊢
      omega
    · intro k hk
      simp only [Value.ownBlock, Option.some.injEq, ne_eq] at hk ⊢
      omega
    · intro k hk
      simp only [Value.ownBlock, Option.some.injEq, ne_eq] at hk ⊢
      omega
    · repeat (first | exact (Kept.refl _ _).drew | exact Kept.refl _ _ | refine Kept.alloc ?_ _ | refine Kept.drew ?_ | refine Kept.trans ?_ K5.out (fun _ _ h => h))
    · intro k hk
      simp only [Value.ownBlock, Option.some.injEq] at hk
      omega
end Go.Proofs.YtgfpcjieonniiaaGreat
