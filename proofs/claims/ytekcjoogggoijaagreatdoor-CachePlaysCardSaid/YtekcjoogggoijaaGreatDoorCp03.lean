/-
  Package table's walks, the first part: a key's place in a row.
-/
import Derived.Test.YtekcjoogggoijaaGreatDoorProg
import Derived.Test.YtekcjoogggoijaaGreatDoorCp01
import Derived.Tactics
import Derived.Tactics2
import Derived.Defers
import Derived.Laws.Pointers
import Derived.Laws.LoneSync
import Derived.RegionTactic
import Derived.RegionCalls
import Derived.BigRegion
import Derived.ChangeAlike
import Derived.Laws.NewBlocks
import Derived.Laws.MakeOwn
import Derived.Test.YtekcjoogggoijaaGreatDoorCp02
import Derived.Deep.RegionLaw
import Derived.Deep.DeepCutAuto
import Derived.Deep.LoopGhost
import Derived.WalkSpells
import Derived.WalkLawsBesides
set_option linter.unusedVariables false
set_option linter.unusedSimpArgs false
set_option linter.unnecessarySimpa false
namespace Go.Proofs.YtekcjoogggoijaaGreatDoor
open Go.RowKit
set_option maxRecDepth 100000

theorem race_disable (w : World) : (callFunc 176 #[]).run Tryz.prog w = .ok (.value (.tuple #[])) w := run_call_mark0 Tryz.func176 (by kernel_rfl) (by kernel_rfl) (by kernel_rfl) .disable (by kernel_rfl) w
theorem race_enable (w : World) : (callFunc 178 #[]).run Tryz.prog w = .ok (.value (.tuple #[])) w := run_call_mark0 Tryz.func178 (by kernel_rfl) (by kernel_rfl) (by kernel_rfl) .enable (by kernel_rfl) w
theorem race_acquire (a : Addr) (w : World) : (callFunc 179 #[.pointer (some a)]).run Tryz.prog w = .ok (.value (.tuple #[])) w := run_call_marked Tryz.func179 (by kernel_rfl) (by kernel_rfl) (by kernel_rfl) .acquire (by kernel_rfl) a w
theorem race_releaseMerge (a : Addr) (w : World) : (callFunc 181 #[.pointer (some a)]).run Tryz.prog w = .ok (.value (.tuple #[])) w := run_call_marked Tryz.func181 (by kernel_rfl) (by kernel_rfl) (by kernel_rfl) .releaseMerge (by kernel_rfl) a w

/-- '(*sync/atomic.Bool).Load': reads. -/
theorem bool_load (b off : Nat) (d : Int) (w : World) (hc : w.cell? ⟨b, off, none⟩ = some (.int .u32 d)) :
    Calls Tryz.prog 146 #[.pointer (some ⟨b, off, none⟩)] w fun e w' => e = .returned (.bool (d != 0)) ∧ w = w' := by
  have hl := run_call_load (P := Tryz.prog) Tryz.func158 (by kernel_rfl) (by kernel_rfl) (by kernel_rfl) .u32 (by kernel_rfl) hc
  go_enter Tryz.func146, Tryz.ntmps146
  go_wp2
  go_ret
  exact ⟨rfl, rfl⟩

/-- '(*sync/atomic.Bool).Store(true)', entered as a deferred call: the cell holds 1. -/
theorem store_deferred (a : Addr) (x : Value) (u : FrameMode) (w : World) (hc : w.cell? a = some x) (hz : w.frozen? a = false) :
    CallsD Tryz.prog 161 #[.pointer (some a), .bool true] u w fun e u' w' => u' = u ∧ (e = .returned (.tuple #[]) ∧ w' = w.drew.setCell a (.int .u32 1)) := by
  have hc' : w.drew.cell? a = some x := by go_simp
  have hz' : w.drew.frozen? a = false := by go_simp
  have hst := run_call_store (P := Tryz.prog) Tryz.func170 (by kernel_rfl) (by kernel_rfl) (by kernel_rfl) (by kernel_rfl) (k := .u32) (y := 1) hc' hz'
  go_enter_d Tryz.func161, Tryz.ntmps161
  go_wp2
  go_region_calls
  all_goals (go_end0; exact ⟨rfl, rfl⟩)

/-- '(*sync.Mutex).Unlock', entered as a deferred call, the lock held and nobody waiting: state 0. -/
theorem unlock_deferred (a : Addr) (u : FrameMode) (w : World) (hc : w.cell? a = some (.int .i32 1)) (hz : w.frozen? a = false) :
    CallsD Tryz.prog 160 #[.pointer (some a)] u w fun e u' w' => u' = u ∧ (e = .returned (.tuple #[]) ∧ w' = w.setCell a (.int .i32 0)) := by
  have hd := race_disable
  have he := race_enable
  have hr := race_releaseMerge
  have hadd := run_call_add (P := Tryz.prog) Tryz.func182 (by kernel_rfl) (by kernel_rfl) (by kernel_rfl) .i32 (by kernel_rfl) (y := -1) (s := 0) hc hz (by simp [go_sem]; rfl)
  have hcv := run_convert_to_unsafe (P := Tryz.prog) (src := 219) (dst := 223) Tryz.underlying219 Tryz.underlying223 (by kernel_rfl) hc
  go_enter_d Tryz.func160, Tryz.ntmps160
  go_wp2
  go_end0
  go_wp2
  go_end0
  exact ⟨rfl, rfl⟩

/-- '(*sync.Mutex).Lock', the lock free: state 1. -/
theorem lock_free (a : Addr) (w : World) (hc : w.cell? a = some (.int .i32 0)) (hz : w.frozen? a = false) :
    Calls Tryz.prog 159 #[.pointer (some a)] w fun e w' => e = .returned (.tuple #[]) ∧ w' = w.setCell a (.int .i32 1) := by
  have hd := race_disable
  have he := race_enable
  have ha := race_acquire
  have hcas := run_call_cas_hit (P := Tryz.prog) Tryz.func177 (by kernel_rfl) (by kernel_rfl) (by kernel_rfl) .i32 (by kernel_rfl) (y := 1) hc hz
  have hc' : (w.setCell a (.int .i32 1)).cell? a = some (.int .i32 1) := World.cell?_setCell_same w a _ hc
  have hcv := run_convert_to_unsafe (P := Tryz.prog) (src := 219) (dst := 223) Tryz.underlying219 Tryz.underlying223 (by kernel_rfl) hc'
  go_enter Tryz.func159, Tryz.ntmps159
  go_wp2
  first | go_end0 | (simp only [Exit.inBlock, Exit.then]; refine bodyPost_ret (results_none rfl _ _ _) rfl ?_) | refine bodyPost_ret (results_none rfl _ _ _) rfl ?_
  go_wp2
  go_end0
  exact ⟨rfl, rfl⟩

/-- The first making of slots: what a table's block is behind it. -/
def MadeFirst (w w' : World) (b : Nat) (seed sema n : Value) : Prop :=
  ∃ g, w'.heap[b]? = some (.cells #[seed, .int .u32 1, .int .i32 0, sema, .slice (some ⟨g, 0, none⟩) 8 8, n] 113 (0, 0)) ∧
    w'.heap[g]? = some (.cells (List.replicate 8 (Value.slice none 0 0)).toArray 45 (0, 0)) ∧ w.heap.size ≤ g ∧ Kept (fun k => k = b) w w'

theorem items_info : (Tryz.prog.info? 45).map (fun i => (i.zero, i.size, i.bytes)) = some (some (.slice none 0 0), 1, 24) := by kernel_rfl
theorem make_rows (n : Nat) (hn : n ≤ 1000000) (w : World) : (Instr.makeSlice 33 (.int .i64 n) (.int .i64 n)).run Tryz.prog w = .ok (.slice (some ⟨w.heap.size, 0, none⟩) n n) (w.alloc (.cells (List.replicate n (Value.slice none 0 0)).toArray 45)) := by
  obtain ⟨i0, hi, hz0, hz1, hz2⟩ := info_parts items_info
  have h := run_make (P := Tryz.prog) w 33 45 i0 _ Tryz.underlying33 hi hz0 .i64 .i64 n n (by omega) (Int.le_refl _) (by rw [hz2]; omega) (by omega)
  rw [Int.toNat_natCast, hz1, Nat.mul_one] at h
  rw [h]
  congr 3
  apply Array.ext'
  simp [madeCells, Value.cells]
  apply List.ext_getElem <;> simp [Nat.mod_one]

/-- 'made$1': eight slots, none of which holds an item. -/
theorem made_body (b pl : Nat) (seed done lock sema n : Value) (v : Value) (w : World) (hb : w.heap[b]? = some (.cells #[seed, done, lock, sema, v, n] 113 (0, 0)))
    (hp : w.cell? ⟨pl, 0, none⟩ = some (.pointer (some ⟨b, 0, none⟩))) :
    Calls Tryz.prog 136 #[.pointer (some ⟨pl, 0, none⟩)] w fun e w' => e = .returned (.tuple #[]) ∧
      ∃ g, w'.heap[b]? = some (.cells #[seed, done, lock, sema, .slice (some ⟨g, 0, none⟩) 8 8, n] 113 (0, 0)) ∧
        w'.heap[g]? = some (.cells (List.replicate 8 (Value.slice none 0 0)).toArray 45 (0, 0)) ∧ w.heap.size ≤ g ∧ Kept (fun k => k = b) w w' := by
  have k4 := cell_at hb 4
  have f4 := frozen_at hb 4
  have hlt := lt_of_block hb
  have hmk := make_rows 8 (by decide)
  simp only [show ((8 : Nat) : Int) = 8 from rfl] at hmk
  obtain ⟨R, hR⟩ : ∃ R, R = Obj.cells (List.replicate 8 (Value.slice none 0 0)).toArray 45 := ⟨_, rfl⟩
  rw [← hR] at hmk
  have HR := Lib.hid hR
  clear hR
  have p0 : ∀ o, (w.alloc o).cell? ⟨pl, 0, none⟩ = some (.pointer (some ⟨b, 0, none⟩)) := fun o => (cell_alloc_lt (World.block_lt_of_cell? w ⟨pl, 0, none⟩ hp)).trans hp
  have a4 : ∀ o, (w.alloc o).cell? ⟨b, 4, none⟩ = some v := fun o => (cell_alloc_lt (by exact hlt)).trans (by simpa using cell_at hb 4)
  have g4 : ∀ o, (w.alloc o).frozen? ⟨b, 4, none⟩ = false := fun o => frozen_at (T := 113) (c := #[seed, done, lock, sema, v, n]) ((Below.heap_alloc _ _ _ hlt).trans hb) _
  simp at k4
  go_enter Tryz.func136, Tryz.ntmps136
  go_wp2_with fail
  go_region
  all_goals
    go_end0
    refine ⟨rfl, w.heap.size, ?_, ?_, Nat.le_refl _, ?_⟩
    · show ((w.setCell _ _).alloc R).heap[b]? = _
      rw [Below.heap_alloc _ _ _ (by simpa [World.setCell] using hlt), setCell_block hb]
      rfl
    · show ((w.setCell _ _).alloc R).heap[w.heap.size]? = _
      have := heap_alloc_new (w.setCell ⟨b, 4, none⟩ (.slice (some ⟨w.heap.size, 0, none⟩) 8 8)) R
      rw [← HR.out]
      simpa [World.setCell] using this
    · exact (((Kept.refl (fun k => k = b) w).setCell (p := ⟨b, 4, none⟩) (fun _ => rfl) _).alloc _).drew

/-- '(*sync.Once).doSlow', not yet done, the lock free: the slots are made, then 'done' is stored and the lock is let go. -/
theorem slow_made (b pl : Nat) (seed sema n v : Value) (w : World) (hb : w.heap[b]? = some (.cells #[seed, .int .u32 0, .int .i32 0, sema, v, n] 113 (0, 0)))
    (hp : w.cell? ⟨pl, 0, none⟩ = some (.pointer (some ⟨b, 0, none⟩))) :
    Calls Tryz.prog 147 #[.pointer (some ⟨b, 1, none⟩), .func (.func 136) #[] #[.pointer (some ⟨pl, 0, none⟩)]] w fun e w' => e = .returned (.tuple #[]) ∧ MadeFirst w w' b seed sema n := by
  have k1 := cell_at hb 1
  have k2 := cell_at hb 2
  have f2 := frozen_at hb 2
  have hlt := lt_of_block hb
  simp at k1 k2
  have hpl : pl < w.heap.size := World.block_lt_of_cell? w ⟨pl, 0, none⟩ hp
  obtain ⟨W, hW⟩ : ∃ W, W = w.setCell ⟨b, 2, none⟩ (.int .i32 1) := ⟨_, rfl⟩
  have hbW : W.heap[b]? = some (.cells #[seed, .int .u32 0, .int .i32 1, sema, v, n] 113 (0, 0)) := by rw [hW, setCell_block hb]; rfl
  have hpW : W.cell? ⟨pl, 0, none⟩ = some (.pointer (some ⟨b, 0, none⟩)) := by rw [hW, World.cell?_setCell_other _ ⟨b, 2, none⟩ ⟨pl, 0, none⟩ _ (by simp)]; exact hp
  have hkW : Kept (fun k => k = b) w W := by rw [hW]; exact (Kept.refl (fun k => k = b) w).setCell (p := ⟨b, 2, none⟩) (fun _ => rfl) _
  have K1 := cell_at hbW 1
  simp at K1
  go_enter_defers Tryz.func147, Tryz.ntmps147
  go_wp2_with fail
  refine (lock_free ⟨b, 2, none⟩ _ k2 f2).mono ?_
  rintro e w1 ⟨rfl, rfl⟩
  rw [← hW]
  have HW := Lib.hid hW
  clear hW k1 k2 f2
  go_wp2_with fail
  refine (bool_load b 1 0 W K1).mono ?_
  rintro e w1 ⟨rfl, rfl⟩
  go_wp2_with fail
  refine (made_body b pl seed _ _ sema n v _ hbW hpW).mono ?_
  rintro e w1 ⟨rfl, g, hb1, hg1, hgs, hk1⟩
  have HB1 := Lib.hid hb1
  have HG1 := Lib.hid hg1
  have j1 := cell_at hb1 1
  have j2 := cell_at hb1 2
  have q1 := frozen_at hb1 1
  have q2 := frozen_at hb1 2
  simp at j1 j2
  clear hb1 hg1 K1
  go_wp2_with fail
  refine leaves_cons (f := 161) (args := #[.pointer (some ⟨b, 1, none⟩), .bool true]) (by simp) (by simp [go_sem]) ?_
  refine (store_deferred ⟨b, 1, none⟩ (.int .u32 0) .returning _ j1 q1).mono ?_
  rintro e u' w2 ⟨rfl, rfl, rfl⟩
  refine leaves_cons (f := 160) (args := #[.pointer (some ⟨b, 2, none⟩)]) (by simp [settle]) (by simp [go_sem]) ?_
  have hb2 : (w1.drew.setCell ⟨b, 1, none⟩ (.int .u32 1)).heap[b]? = some (.cells #[seed, .int .u32 1, .int .i32 1, sema, .slice (some ⟨g, 0, none⟩) 8 8, n] 113 (0, 0)) := by
    rw [setCell_block (w := w1.drew) HB1.out]; rfl
  refine (unlock_deferred ⟨b, 2, none⟩ _ _ (by simpa using cell_at hb2 2) (frozen_at hb2 2)).mono ?_
  rintro e u' w3 ⟨rfl, rfl, rfl⟩
  have hgb : g ≠ b := by
    have := hkW.size
    omega
  have fin : MadeFirst w ((w1.drew.setCell ⟨b, 1, none⟩ (.int .u32 1)).setCell ⟨b, 2, none⟩ (.int .i32 0)) b seed sema n := by
    refine ⟨g, by rw [setCell_block hb2]; rfl, ?_, Nat.le_trans hkW.size hgs, ?_⟩
    · rw [Below.heap_setCell _ _ _ _ hgb, Below.heap_setCell _ _ _ _ hgb]
      exact HG1.out
    · exact (((hkW.trans hk1 (fun _ _ h => h)).drew).setCell (p := ⟨b, 1, none⟩) (fun _ => rfl) _).setCell (p := ⟨b, 2, none⟩) (fun _ => rfl) _
  simp [Leaves, settle, results, Tryz.results147]
  exact fin

theorem do_made (b pl : Nat) (seed sema n v : Value) (w : World) (hb : w.heap[b]? = some (.cells #[seed, .int .u32 0, .int .i32 0, sema, v, n] 113 (0, 0)))
    (hp : w.cell? ⟨pl, 0, none⟩ = some (.pointer (some ⟨b, 0, none⟩))) :
    Calls Tryz.prog 135 #[.pointer (some ⟨b, 1, none⟩), .func (.func 136) #[] #[.pointer (some ⟨pl, 0, none⟩)]] w fun e w' => e = .returned (.tuple #[]) ∧ MadeFirst w w' b seed sema n := by
  have k1 := cell_at hb 1
  simp at k1
  go_enter Tryz.func135, Tryz.ntmps135
  go_wp2_with fail
  refine (bool_load b 1 0 _ k1).mono ?_
  rintro e w1 ⟨rfl, rfl⟩
  go_wp2_with fail
  refine (slow_made b pl seed sema n v _ hb hp).mono ?_
  rintro e w1 ⟨rfl, hm⟩
  go_wp2_with fail
  go_end0
  exact ⟨rfl, hm⟩

/-- Done already: the function is not called. -/
theorem do_done (b : Nat) (fv : Value) (w : World) (hb : w.cell? ⟨b, 1, none⟩ = some (.int .u32 1)) :
    Calls Tryz.prog 135 #[.pointer (some ⟨b, 1, none⟩), fv] w fun e w' => e = .returned (.tuple #[]) ∧ w = w' := by
  go_enter Tryz.func135, Tryz.ntmps135
  go_wp2_with fail
  refine (bool_load b 1 1 _ hb).mono ?_
  rintro e w1 ⟨rfl, rfl⟩
  go_wp2_with fail
  go_end0
  exact ⟨rfl, rfl⟩

/-- 'made', the first time. -/
theorem made_first (b : Nat) (seed sema n v : Value) (w : World) (hb : w.heap[b]? = some (.cells #[seed, .int .u32 0, .int .i32 0, sema, v, n] 113 (0, 0))) :
    Calls Tryz.prog 112 #[.pointer (some ⟨b, 0, none⟩)] w fun e w' => e = .returned (.tuple #[]) ∧ MadeFirst w w' b seed sema n := by
  have hlt := lt_of_block hb
  have hmf : ∀ (fn : Fn) (first cap : Array Value) (w : World), (Instr.makeFunc fn first cap).run Tryz.prog w = .ok (.func fn first cap) w := fun _ _ _ _ => rfl
  have p0 : (w.alloc (.cells #[.pointer (some ⟨b, 0, none⟩)] 65)).cell? ⟨w.heap.size, 0, none⟩ = some (.pointer (some ⟨b, 0, none⟩)) := by simp
  have hbW := (Below.heap_alloc w (.cells #[.pointer (some ⟨b, 0, none⟩)] 65) b hlt).trans hb
  go_enter Tryz.func112, Tryz.ntmps112
  go_wp2_with fail
  refine (do_made b w.heap.size seed sema n v _ hbW p0).mono ?_
  rintro e w1 ⟨rfl, g, h1, h2, h3, h4⟩
  have H1 := Lib.hid h1
  have H2 := Lib.hid h2
  clear h1 h2
  go_wp2_with fail
  go_end0
  refine ⟨rfl, g, H1.out, H2.out, ?_, ((Kept.refl _ w).alloc _).trans h4 (fun _ _ h => h)⟩
  simp at h3
  omega

/-- 'made', later. -/
theorem made_again (b : Nat) (w : World) (hb : w.cell? ⟨b, 1, none⟩ = some (.int .u32 1)) :
    Calls Tryz.prog 112 #[.pointer (some ⟨b, 0, none⟩)] w fun e w' => e = .returned (.tuple #[]) ∧ Kept (fun _ => False) w w' := by
  have hlt := World.block_lt_of_cell? w ⟨b, 1, none⟩ hb
  have hmf : ∀ (fn : Fn) (first cap : Array Value) (w : World), (Instr.makeFunc fn first cap).run Tryz.prog w = .ok (.func fn first cap) w := fun _ _ _ _ => rfl
  have p0 : (w.alloc (.cells #[.pointer (some ⟨b, 0, none⟩)] 65)).cell? ⟨w.heap.size, 0, none⟩ = some (.pointer (some ⟨b, 0, none⟩)) := by simp
  go_enter Tryz.func112, Tryz.ntmps112
  go_wp2_with fail
  refine (do_done b _ _ ((cell_alloc_lt hlt).trans hb)).mono ?_
  rintro e w1 ⟨rfl, rfl⟩
  go_wp2_with fail
  go_end0
  exact ⟨rfl, (Kept.refl _ w).alloc _⟩
end Go.Proofs.YtekcjoogggoijaaGreatDoor
namespace Go.Proofs.YtekcjoogggoijaaGreatDoor
open Go.RowKit

theorem atomic_add (b off : Nat) (x y s : Int) (w : World) (hc : w.cell? ⟨b, off, none⟩ = some (.int .i64 x)) (hz : w.frozen? ⟨b, off, none⟩ = false) (hs : wrap64 (x + y) = s) :
    Calls Tryz.prog 104 #[.pointer (some ⟨b, off, none⟩), .int .i64 y] w fun e w' => e = .returned (.int .i64 s) ∧ w.setCell ⟨b, off, none⟩ (.int .i64 s) = w' := by
  subst hs
  have ha := run_call_add (P := Tryz.prog) Tryz.func119 (by kernel_rfl) (by kernel_rfl) (by kernel_rfl) .i64 (by kernel_rfl) (y := y) hc hz (s := wrap64 (x + y)) (by simp [go_sem, wrap64, IntKind.wrap_i64])
  go_enter Tryz.func104, Tryz.ntmps104
  go_wp2
  go_ret
  exact ⟨rfl, rfl⟩

theorem atomic_load (b off : Nat) (x : Int) (w : World) (hc : w.cell? ⟨b, off, none⟩ = some (.int .i64 x)) :
    Calls Tryz.prog 45 #[.pointer (some ⟨b, off, none⟩)] w fun e w' => e = .returned (.int .i64 x) ∧ w = w' := by
  have ha := run_call_load (P := Tryz.prog) Tryz.func88 (by kernel_rfl) (by kernel_rfl) (by kernel_rfl) .i64 (by kernel_rfl) hc
  go_enter Tryz.func45, Tryz.ntmps45
  go_wp2
  go_ret
  exact ⟨rfl, rfl⟩

end Go.Proofs.YtekcjoogggoijaaGreatDoor
namespace Go.Proofs.YtekcjoogggoijaaGreatDoor
open Go.RowKit
set_option maxRecDepth 100000

theorem bytes_beq (a b : ByteArray) : (a.toList == b.toList) = decide (a = b) := by
  rw [Bool.eq_iff_iff, beq_iff_eq, decide_eq_true_iff, ByteArray.toList_eq, ByteArray.toList_eq]
  constructor
  · intro h
    exact ByteArray.ext (Array.ext' h)
  · rintro rfl
    rfl

/-- 'place$1': is it the item's key? -/
theorem same_key (x : It) (pl : Nat) (key : ByteArray) (w : World) (hp : w.cell? ⟨pl, 0, none⟩ = some (.string key)) :
    Calls Tryz.prog 115 #[.agg #[.string x.key, .string x.val, .int .i64 x.ver, .int .i64 x.til], .pointer (some ⟨pl, 0, none⟩)] w fun e w' => e = .returned (.bool (decide (x.key = key))) ∧ Kept (fun _ => False) w w' := by
  have hlt := World.block_lt_of_cell? w ⟨pl, 0, none⟩ hp
  have p0 : ∀ o, (w.alloc o).cell? ⟨pl, 0, none⟩ = some (.string key) := fun o => (cell_alloc_lt hlt).trans hp
  go_enter Tryz.func115, Tryz.ntmps115
  go_wp2_with fail
  go_ret
  exact ⟨congrArg (fun b => Ending.returned (.bool b)) (bytes_beq _ _), (Kept.refl _ w).alloc _⟩

/-- slices.IndexFunc with it: the place of the key's item. -/
theorem index_key (v : Value) (l : List It) (pl : Nat) (key : ByteArray) (w : World) (hv : Rd w 4 l.length v (flat l)) (hl : l.length ≤ 1000000) (hp : w.cell? ⟨pl, 0, none⟩ = some (.string key)) :
    Calls Tryz.prog 114 #[v, .func (.func 115) #[] #[.pointer (some ⟨pl, 0, none⟩)]] w fun e w' => (∃ r, e = .returned (.int .i64 r) ∧ Found key l r) ∧ Kept (fun _ => False) w w' := by
  obtain ⟨ao, ca, rfl, hca⟩ := hv.shape
  have HA := Lib.hid (fun (wr : World) (hk : Kept (fun _ => False) w wr) i hi => rd_it (hv.kept hk (fun _ _ h => h)) rfl i hi)
  have HP := Lib.hid (fun (wr : World) (hk : Kept (fun _ => False) w wr) => hk.cell0 hp)
  clear hv hp
  obtain ⟨n, hn⟩ : ∃ n, n = l.length := ⟨_, rfl⟩
  rw [← hn] at hl hca ⊢
  have HN := Lib.hid hn
  clear hn
  go_enter Tryz.func114, Tryz.ntmps114
  go_wp2_with fail
  go_loopg [8] n (fun g k wr => ∃ i : Nat, i + g = n ∧ k = .int .i64 (i : Int) ∧ (∀ x ∈ l.take i, x.key ≠ key) ∧ Kept (fun _ => False) w wr)
  case atStart => exact ⟨0, by omega, rfl, by simp, Kept.refl _ _⟩
  case round =>
    obtain ⟨i, hi, rfl, hno, hk⟩ := hrel
    by_cases hlt : i < n
    · obtain ⟨g, off, rfl, x0, x1, x2, x3⟩ := HA.out _ hk i (HN.out ▸ hlt)
      have hp := HP.out _ hk
      have hget : l[i]? = some (l[i]'(HN.out ▸ hlt)) := List.getElem?_eq_getElem _
      have hsn : ∀ x ∈ l.take (i + 1), x.key ≠ key ∨ x = (l[i]'(HN.out ▸ hlt)) := by
        intro x hx
        rw [List.take_succ_eq_append_getElem (HN.out ▸ hlt)] at hx
        rcases List.mem_append.1 hx with h | h
        · exact .inl (hno x h)
        · exact .inr (by simpa using h)
      have HG := Lib.hid hget
      have HS := Lib.hid hsn
      clear hget hsn hno
      generalize (l[i]'(HN.out ▸ hlt)) = it at *
      go_wp2_with fail
      refine (same_key it pl key _ hp).mono ?_
      rintro e w1 ⟨rfl, hk1⟩
      by_cases hq : it.key = key
      · have hb : decide (it.key = key) = true := decide_eq_true hq
        rw [hb]
        go_wp2_with fail
        go_ret
        exact ⟨⟨_, rfl, .inr ⟨i, it, rfl, HG.out, hq⟩⟩, hk.trans hk1 (fun _ _ h => h)⟩
      · have hb : decide (it.key = key) = false := decide_eq_false hq
        rw [hb]
        go_wp2_with fail
        go_roundg (gk - 1)
        case measure => omega
        case rel => exact ⟨i + 1, by omega, by go_num, fun x hx => (HS.out x hx).elim id (fun e => e ▸ hq), hk.trans hk1 (fun _ _ h => h)⟩
    · obtain rfl : i = n := by omega
      rw [List.take_of_length_le (by rw [HN.out]; exact Nat.le_refl _)] at hno
      have HH := Lib.hid hno
      clear hno
      go_wp2_with fail
      go_ret
      exact ⟨⟨_, rfl, .inl ⟨rfl, HH.out⟩⟩, hk⟩
end Go.Proofs.YtekcjoogggoijaaGreatDoor
