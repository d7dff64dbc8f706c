/-
  The laws' own function put: a cache, and items that were set in it.
-/
import Derived.Test.YtehpafebpgndeaaGreatDoorCacheW
import Derived.Test.YtehpafebpgndeaaGreatDoorBytes
import Derived.Laws.MakeOwn
import Derived.Deep.DeepCutAuto
import Derived.Deep.RegionWith
namespace Go.Proofs.YtehpafebpgndeaaGreatDoor
set_option linter.unusedVariables false
set_option linter.unusedSimpArgs false
set_option linter.unnecessarySimpa false
open Go.RowKit
set_option maxRecDepth 100000

/-- 'string(b)' where the bytes are known. -/
theorem conv_at (w : World) (g n : Nat) (ns : List Int) (hn : ns.length = n) (hc : ∀ j u, (ns.map (Value.int .u8))[j]? = some u → w.cell? ((⟨g, 0, none⟩ : Addr).add j) = some u) : (convert 58 9 (.slice (some ⟨g, 0, none⟩) n n)).run Tryz.prog w = .ok (.string (strOfNums ns)) w := by
  refine run_convert_bytes_arg _ 58 5 Tryz.underlying58 Tryz.underlying5 g 0 n n ns hn (fun i hi => ?_) 9 Tryz.underlying9
  have h := hc i (.int .u8 ns[i]) (by simp [hi])
  rw [Addr.add_lit] at h
  rw [h]
  simp [List.getD, hi, hn]
/-- Two new rows, in either order, behind a draw. -/
theorem two_rows (w : World) (xs : List Int) :
    (∀ a, a = xs.length →
    (convert 58 9 (.slice (some ⟨w.heap.size, 0, none⟩) a a)).run Tryz.prog (w.alloc (.cells (xs.map (Value.int .u8)).toArray 5)).drew = .ok (.string (strOfNums xs)) (w.alloc (.cells (xs.map (Value.int .u8)).toArray 5)).drew ∧
    (∀ o, (convert 58 9 (.slice (some ⟨w.heap.size, 0, none⟩) a a)).run Tryz.prog ((w.alloc (.cells (xs.map (Value.int .u8)).toArray 5)).alloc o).drew = .ok (.string (strOfNums xs)) ((w.alloc (.cells (xs.map (Value.int .u8)).toArray 5)).alloc o).drew) ∧
    (∀ o, (convert 58 9 (.slice (some ⟨w.heap.size + 1, 0, none⟩) a a)).run Tryz.prog ((w.alloc o).alloc (.cells (xs.map (Value.int .u8)).toArray 5)).drew = .ok (.string (strOfNums xs)) ((w.alloc o).alloc (.cells (xs.map (Value.int .u8)).toArray 5)).drew)) := by
  rintro a rfl
  refine ⟨conv_at _ _ _ _ rfl fun j u hu => ?_, fun o => conv_at _ _ _ _ rfl fun j u hu => ?_, fun o => conv_at _ _ _ _ rfl fun j u hu => ?_⟩
  · exact cells_new w _ 5 (0, 0) j u hu
  · have h := cells_new w _ 5 (0, 0) j u hu
    rw [Addr.add_lit] at h ⊢
    exact (((Kept.refl (fun _ => False) _).alloc o).drew.cell (p := ⟨w.heap.size, 0 + j, none⟩) (by simp) (fun h => h)).trans h
  · have h := cells_new (w.alloc o) _ 5 (0, 0) j u hu
    rw [show (w.alloc o).heap.size = w.heap.size + 1 by simp] at h
    exact h
theorem make_bytes (n : Nat) (hn : n ≤ 1000000) (w : World) : (Instr.makeSlice 58 (.int .i64 n) (.int .i64 n)).run Tryz.prog w = .ok (.slice (some ⟨w.heap.size, 0, none⟩) n n) (w.alloc (.cells (List.replicate n (Value.int .u8 0)).toArray 5)) := by
  obtain ⟨i0, hi, hz0, hz1, hz2⟩ := info_parts byte_info
  have h := run_make (P := Tryz.prog) w 58 5 i0 _ Tryz.underlying58 hi hz0 .i64 .i64 n n (by omega) (Int.le_refl _) (by rw [hz2]; omega) (by omega)
  rw [Int.toNat_natCast, hz1, Nat.mul_one] at h
  rw [h]
  congr 3
  apply Array.ext'
  simp [madeCells, Value.cells]
  apply List.ext_getElem <;> simp [Nat.mod_one]
theorem kk_nums (k : Nat) (h : k < 256) : strOfNums [107, (k : Int)] = kkB k := by
  unfold strOfNums kkB
  simp
theorem z_nums (n : Nat) : strOfNums (List.replicate n 0) = zB n := by
  unfold strOfNums zB
  simp

set_option maxHeartbeats 8000000 in
theorem putF_any (budget : Int) (n size : Nat) (w0 w : World) (hk : Kept (fun _ => False) w0 w) (hL : Laid w0) (hn : n ≤ 20) (hs : size ≤ 100) (hb : ((n : Nat) : Int) * (18 + size) ≤ budget) (hb0 : 0 ≤ budget) (hb1 : budget ≤ 1000000) :
    Calls Tryz.prog 34 #[.int .i64 budget, .int .i64 n, .int .i64 size] w fun e w' => ∃ c, e = .returned (.pointer (some ⟨c, 0, none⟩)) ∧ OwnC w0 w' c ⟨budget, rowU (putIt size) n, n, 0⟩ n [] := by
  have NEW := Lib.hid (own_newc hk hL budget (by omega) (by omega))
  rw [newC_at hb0 hb1] at NEW
  clear hk hL
  go_enter Tryz.func34, Tryz.ntmps34
  go_wp2_with fail
  refine NEW.out.mono ?_
  rintro e w1 ⟨c, rfl, o1⟩
  have O1 := Lib.hid o1
  clear o1 NEW
  go_wp2_with fail
  go_loopg [8] n (fun gk k wr => ∃ i : Nat, i + gk = n ∧ k = .int .i64 (i : Int) ∧ OwnC w0 wr c ⟨budget, rowU (putIt size) i, i, 0⟩ i [])
  case atStart => exact ⟨0, by omega, rfl, O1.out⟩
  case round =>
    obtain ⟨i, hi, rfl, hj⟩ := hrel
    by_cases hlt : i < n
    · have hmul : ((i + 1 : Nat) : Int) * (18 + size) ≤ budget := by
        refine Int.le_trans (Int.mul_le_mul_of_nonneg_right ?_ (by omega)) hb
        omega
      have ST := Lib.hid (put_step (budget := budget) (size := size) (n := i) (by omega) hs hmul)
      have HJ := Lib.hid hj
      have h8 : IntKind.u8.wrap (i : Int) = (i : Int) := IntWalk.u8_in _ (by omega)
      clear hj hmul O1
      go_wp2_with fail
      obtain ⟨p1, p2, p3⟩ := two_rows wr [107, (i : Int)] 2 rfl
      rw [kk_nums i (by omega)] at p1 p2 p3
      simp only [List.map_cons, List.map_nil] at p1 p2 p3
      obtain ⟨q1, q2, q3⟩ := two_rows wr (List.replicate size 0) size (by simp)
      rw [z_nums, List.map_replicate, List.toArray_replicate] at q1 q2 q3
      have mk := make_bytes size (by omega)
      have DO := Lib.hid (fun (W : World) (hk : Kept (fun _ => False) wr W) => own_do (HJ.out.kept0 hk) (by omega) ⟨2, kkB i, zB size, 0, 0⟩ (1) (show (kkB i).size ≤ 1000000000 by rw [kkB_size]; omega) (show (zB size).size ≤ 1000000000 by rw [zB_size]; omega) (show (2 : Int) ≠ 11 by decide) (show (2 : Int) ≠ 12 by decide) ST.out)
      go_region_with (go_at_call 27; refine (DO.out _ (((Kept.refl (fun _ => False) wr).alloc _).alloc _).drew).mono ?_; rintro e w9 ⟨rfl, o9⟩; have O9 := Lib.hid o9; clear o9)
      all_goals
        go_wp2_with fail
        go_roundg (gk - 1)
        case measure => omega
        case rel => exact ⟨i + 1, by omega, by go_num, O9.out⟩
    · obtain rfl : i = n := by omega
      have HJ := Lib.hid hj
      clear hj
      go_wp2_with fail
      go_ret
      exact ⟨c, rfl, HJ.out⟩
end Go.Proofs.YtehpafebpgndeaaGreatDoor
