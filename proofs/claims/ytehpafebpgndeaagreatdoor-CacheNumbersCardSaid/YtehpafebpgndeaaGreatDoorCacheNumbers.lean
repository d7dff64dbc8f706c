/-
  CacheNumbers: every text as a number, or that it is none; every item's cost: the walk.
-/
import Derived.Test.YtehpafebpgndeaaGreatDoorItArg
import Derived.Test.YtehpafebpgndeaaGreatDoorRefNumB
import Derived.Deep.RegionHeld3
namespace Go.Proofs.YtehpafebpgndeaaGreatDoor
set_option linter.unusedVariables false
set_option linter.unusedSimpArgs false
set_option linter.unnecessarySimpa false
open Go.RowKit
set_option maxRecDepth 100000

theorem costW_any (x : It) (w : World) (hk : x.key.size ≤ 9223372036854775807) (hv : x.val.size ≤ 9223372036854775807) :
    Calls Tryz.prog 24 #[.agg #[.string x.key, .string x.val, .int .i64 x.ver, .int .i64 x.til]] w fun e w' => e = .returned (.int .i64 (wrap64 (wrap64 (16 + (x.key.size : Int)) + (x.val.size : Int)))) ∧ Kept (fun _ => False) w w' := by
  go_enter Tryz.func24, Tryz.ntmps24
  go_wp2_with fail
  go_ret
  exact ⟨rfl, (Kept.refl _ w).alloc _⟩
set_option maxHeartbeats 8000000 in
theorem cacheNumbers_walk (s : ByteArray) (x : It) (w : World) (hL : Laid w) (hx0 : x.key.size ≤ maxLen) (hx1 : x.val.size ≤ maxLen) :
    Calls Tryz.prog 3 #[.string s, .agg #[.string x.key, .string x.val, .int .i64 x.ver, .int .i64 x.til]] w fun e w' => e = .returned (.bool true) ∧ Kept (fun _ => False) w w' := by
  have AL := Lib.hid (fun o => alive_true (w.alloc o) (hL.kept0 ((Kept.refl _ w).alloc o)))
  have HL0 := Lib.hid hL
  clear hL
  unfold maxLen at hx0 hx1
  by_cases g1 : 100 < (s.size : Int)
  · go_enter Tryz.func3, Tryz.ntmps3
    go_wp2_with fail
    refine (AL.out _).mono ?_
    rintro e w1 ⟨rfl, hk⟩
    have HK := Lib.hid (((Kept.refl (fun _ => False) w).alloc _).trans hk (fun _ _ h => h))
    clear hk
    go_wp2_with fail
    go_ret
    exact ⟨rfl, HK.out⟩
  have CO := Lib.hid (fun W => costW_any x W (by omega) (by omega))
  have N0 := Lib.hid (fun W hL => cnum s W hL (by omega))
  have N1 := Lib.hid (fun W => ref_number s W (by omega))
  rw [refNum_eq] at N1
  go_enter Tryz.func3, Tryz.ntmps3
  go_wp2_with fail
  refine (AL.out _).mono ?_
  rintro e w1 ⟨rfl, hk⟩
  obtain ⟨W0, hW0⟩ : ∃ W0, W0 = w.alloc (.cells #[.string x.key, .string x.val, .int .i64 x.ver, .int .i64 x.til] 23) := ⟨_, rfl⟩
  rw [← hW0] at hk
  obtain ⟨xb, hxb⟩ : ∃ b, w.heap.size = b := ⟨_, rfl⟩
  have h0 : W0.heap[xb]? = some (itBox x) := by rw [hW0, ← hxb]; exact heap_alloc_new w _
  have IT := Lib.hid (fun (W : World) (hk : Kept (fun _ => False) W0 W) => (have hb := (hk.block xb (lt_of_block h0) (fun h => h)).trans h0
    ⟨cell_at hb 0, cell_at hb 1, cell_at hb 2, cell_at hb 3, lt_of_block hb⟩ : W.cell? ⟨xb, 0, none⟩ = some (.string x.key) ∧ W.cell? ⟨xb, 1, none⟩ = some (.string x.val) ∧ W.cell? ⟨xb, 2, none⟩ = some (.int .i64 x.ver) ∧ W.cell? ⟨xb, 3, none⟩ = some (.int .i64 x.til) ∧ xb < W.heap.size))
  have HL := Lib.hid (show Laid W0 from HL0.out.kept0 (hW0 ▸ (Kept.refl _ w).alloc _))
  have KW := Lib.hid (show Kept (fun _ => False) w W0 from hW0 ▸ (Kept.refl _ w).alloc _)
  have HK1 := Lib.hid hk
  have HXB := Lib.hid hxb
  clear hk hxb hW0 h0 hx0 hx1
  go_wp2_with fail
  rw [HXB.out]
  rw [show numV (numberB s) = .tuple #[.int .i64 ((numberB s).getD 0), .bool (numberB s).isSome] from rfl] at N0 N1
  generalize (numberB s).getD 0 = v at *
  generalize (numberB s).isSome = b at *
  have hvv : (v == v) = true := beq_self_eq_true _
  have hbb : (b == b) = true := beq_self_eq_true _
  go_wp2_with fail
  refine (N0.out _ (HL.out.kept0 HK1.out)).mono ?_
  rintro e w2 ⟨rfl, hk2⟩
  have HK2 := Lib.hid (HK1.out.trans hk2 (fun _ _ h => h))
  clear hk2
  go_wp2_with fail
  refine (N1.out _).mono ?_
  rintro e w3 ⟨rfl, hk3⟩
  have HK3 := Lib.hid (HK2.out.trans hk3 (fun _ _ h => h))
  clear hk3
  obtain ⟨m0, m1, m2, m3, m4⟩ := IT.out w3 HK3.out
  go_wp2_with fail
  go_region_held3 (fun w' => w'.cell? ⟨xb, 0, none⟩ = some (.string x.key) ∧ w'.cell? ⟨xb, 1, none⟩ = some (.string x.val) ∧ w'.cell? ⟨xb, 2, none⟩ = some (.int .i64 x.ver) ∧ w'.cell? ⟨xb, 3, none⟩ = some (.int .i64 x.til)) (go_keep)
    (first | (go_at_call 24; refine (CO.out _).mono ?_; rintro e w4 ⟨rfl, hk4⟩; have HK4 := Lib.hid (HK3.out.trans (((Kept.refl (fun _ => False) w3).drew).trans hk4 (fun _ _ h => h)) (fun _ _ h => h)); obtain ⟨q0, q1, q2, q3, q4⟩ := IT.out w4 HK4.out; clear hk4))
  all_goals
    go_wp2_with fail
    go_ret
    exact ⟨by first | rfl | (simp [IntWalk.i64_left]; done), KW.out.trans HK4.out (fun _ _ h => h)⟩
end Go.Proofs.YtehpafebpgndeaaGreatDoor
