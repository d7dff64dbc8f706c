/-
  Package cache's walks, the eleventh part: set.
-/
import Derived.Test.YtekcjoogggoijaaGreatDoorCp17
import Derived.Deep.Cut
import Derived.Deep.CutBlock
import Derived.StillTailTactics
set_option linter.unusedVariables false
set_option linter.unusedSimpArgs false
set_option linter.unnecessarySimpa false
namespace Go.Proofs.YtekcjoogggoijaaGreatDoor
open Go.RowKit
set_option maxRecDepth 100000

theorem refClass_any (op : Int) (w : World) : Calls Tryz.prog 84 #[.int .i64 op] w fun e w' => e = .returned (.int .i64 (classC op)) ∧ w = w' := by
  by_cases ho : 1 ≤ op ∧ op ≤ 13
  · obtain ⟨h1, h2⟩ := ho
    have h : op = 1 ∨ op = 2 ∨ op = 3 ∨ op = 4 ∨ op = 5 ∨ op = 6 ∨ op = 7 ∨ op = 8 ∨ op = 9 ∨ op = 10 ∨ op = 11 ∨ op = 12 ∨ op = 13 := by omega
    rcases h with rfl | rfl | rfl | rfl | rfl | rfl | rfl | rfl | rfl | rfl | rfl | rfl | rfl
    all_goals
      clear h1 h2
      go_enter Tryz.func84, Tryz.ntmps84
      go_wp2_with fail
      go_ret
      exact ⟨by unfold classC; rfl, rfl⟩
  · have hc : classC op = 0 := by
      unfold classC
      rw [if_neg (by omega), if_neg (by omega), if_neg (by omega)]
    rw [hc]
    have e1 : (op == 1) = false := by simp; omega
    have e2 : (op == 2) = false := by simp; omega
    have e3 : (op == 3) = false := by simp; omega
    have e4 : (op == 4) = false := by simp; omega
    have e5 : (op == 5) = false := by simp; omega
    have e6 : (op == 6) = false := by simp; omega
    have e7 : (op == 7) = false := by simp; omega
    have e8 : (op == 8) = false := by simp; omega
    have e9 : (op == 9) = false := by simp; omega
    have e10 : (op == 10) = false := by simp; omega
    have e11 : (op == 11) = false := by simp; omega
    have e12 : (op == 12) = false := by simp; omega
    have e13 : (op == 13) = false := by simp; omega
    go_enter Tryz.func84, Tryz.ntmps84
    go_wp2_with fail
    go_ret
    exact ⟨rfl, rfl⟩
theorem refNumOk_any (n : Int) (w : World) : Calls Tryz.prog 85 #[.int .i64 n] w fun e w' => e = .returned (.bool (decide (-1000000000000 ≤ n) && decide (n ≤ 1000000000000))) ∧ w = w' := by
  by_cases h : -1000000000000 ≤ n
  · rw [decide_eq_true h, Bool.true_and]
    go_enter Tryz.func85, Tryz.ntmps85
    go_wp2_with fail
    go_ret
    exact ⟨rfl, rfl⟩
  · rw [decide_eq_false h, Bool.false_and]
    go_enter Tryz.func85, Tryz.ntmps85
    go_wp2_with fail
    go_ret
    exact ⟨rfl, rfl⟩

/-- May an operation have such a key, but for its length? -/
def keyB (op : Int) (k : ByteArray) : Bool := if op = 11 then true else if op = 12 ∨ op = 13 then k.toList.isEmpty else decide (1 ≤ (k.size : Int))
theorem empty_size (k : ByteArray) : k.toList.isEmpty = true ↔ k.size = 0 := by
  rw [List.isEmpty_iff, ByteArray.toList_eq]
  exact ⟨fun h => congrArg List.length h, fun h => List.eq_nil_of_length_eq_zero h⟩
theorem keyOk_keyB (op : Int) (k : ByteArray) : keyOk op k ↔ keyB op k = true ∧ (k.size : Int) ≤ 60 := by
  unfold keyOk keyB
  by_cases h1 : op = 11
  · rw [if_pos h1, if_pos h1]
    simp
    omega
  · rw [if_neg h1, if_neg h1]
    by_cases h2 : op = 12 ∨ op = 13
    · rw [if_pos h2, if_pos h2, empty_size]
      omega
    · rw [if_neg h2, if_neg h2, decide_eq_true_iff]
      omega

set_option maxHeartbeats 4000000 in
theorem refCommand_any (x : Cm) (w : World) (hk : x.key.size ≤ 1000000000) (hv : x.val.size ≤ 1000000000) :
    Calls Tryz.prog 31 #[.agg #[.int .i64 x.op, .string x.key, .string x.val, .int .i64 x.num, .int .i64 x.ver]] w fun e w' => e = .returned (.bool (decide (rightC x))) ∧ Kept (fun _ => False) w w' := by
  have hcl : 0 < classC x.op ↔ 1 ≤ x.op ∧ x.op ≤ 13 := by
    unfold classC
    constructor
    · intro h
      split at h
      · omega
      · split at h
        · omega
        · split at h
          · omega
          · omega
    · intro h
      split
      · omega
      · split
        · omega
        · split
          · omega
          · omega
  have HR := Lib.hid (show rightC x ↔ 0 < classC x.op ∧ keyB x.op x.key = true ∧ (x.key.size : Int) ≤ 60 ∧ (x.val.size : Int) ≤ 500 ∧ -1000000000000 ≤ x.num ∧ x.num ≤ 1000000000000 ∧ 0 ≤ x.ver ∧ x.ver ≤ 1000000000000 from by
    rw [hcl]
    unfold rightC
    rw [keyOk_keyB]
    constructor
    · rintro ⟨a, b, ⟨c, d⟩, e, f, g, h, i⟩
      exact ⟨⟨a, b⟩, c, d, by omega, f, g, h, i⟩
    · rintro ⟨⟨a, b⟩, c, d, e, f, g, h, i⟩
      exact ⟨a, b, ⟨c, d⟩, by omega, f, g, h, i⟩)
  obtain ⟨op, key, val, num, ver⟩ := x
  simp only at hk hv HR ⊢
  have HC := Lib.hid (fun W => refClass_any op W)
  have HN := Lib.hid (fun W => refNumOk_any num W)
  obtain ⟨W0, hW0⟩ : ∃ W0, W0 = w.alloc (.cells #[.int .i64 op, .string key, .string val, .int .i64 num, .int .i64 ver] 39) := ⟨_, rfl⟩
  obtain ⟨xb, hxb⟩ : ∃ xb, xb = w.heap.size := ⟨_, rfl⟩
  have hb : W0.heap[xb]? = some (.cells #[.int .i64 op, .string key, .string val, .int .i64 num, .int .i64 ver] 39 (0, 0)) := by rw [hW0, hxb]; exact heap_alloc_new _ _
  have HK := Lib.hid (show Kept (fun _ => False) w W0 by rw [hW0]; exact (Kept.refl _ _).alloc _)
  have x0 := cell_at hb 0
  have x1 := cell_at hb 1
  have x2 := cell_at hb 2
  have x3 := cell_at hb 3
  have x4 := cell_at hb 4
  simp at x0 x1 x2 x3 x4
  clear hcl hb
  go_enter Tryz.func31, Tryz.ntmps31
  go_upto_region 1 with fail
  rw [← hW0, ← hxb]
  clear hW0 hxb
  go_upto_block 0 with fail
  go_cut [3] (fun k wr => k = .bool (keyB op key) ∧ wr = W0)
  case first =>
    by_cases h11 : op = 11
    · subst h11
      go_wp2_with fail
      go_meet
      case rel => exact ⟨rfl, rfl⟩
    · by_cases h12 : op = 12
      · subst h12
        go_wp2_with fail
        go_meet
        case rel => exact ⟨by unfold keyB; rfl, rfl⟩
      · by_cases h13 : op = 13
        · subst h13
          go_wp2_with fail
          go_meet
          case rel => exact ⟨by unfold keyB; rfl, rfl⟩
        · have hkb : keyB op key = decide (1 ≤ (key.size : Int)) := by unfold keyB; rw [if_neg h11, if_neg (by omega)]
          have HKB := Lib.hid hkb
          have e1 : (op == 11) = false := by simp; omega
          have e2 : (op == 12) = false := by simp; omega
          have e3 : (op == 13) = false := by simp; omega
          clear hkb h11 h12 h13
          go_wp2_with fail
          go_meet
          case rel => exact ⟨by rw [HKB.out], rfl⟩
  case rest =>
    obtain ⟨rfl, hwc⟩ := hcut
    subst hwc
    generalize keyB op key = kb at *
    by_cases h1 : 0 < classC op
    case' neg =>
      have HF := Lib.hid (decide_eq_false (fun h => h1 (HR.out.1 h).1) : decide (rightC ⟨op, key, val, num, ver⟩) = false)
    case' pos =>
      cases kb
      case' false => have HF := Lib.hid (decide_eq_false (fun h => by have := (HR.out.1 h).2.1; cases this) : decide (rightC ⟨op, key, val, num, ver⟩) = false)
      case' true =>
        by_cases h3 : (key.size : Int) ≤ 60
        case' neg => have HF := Lib.hid (decide_eq_false (fun h => h3 (HR.out.1 h).2.2.1) : decide (rightC ⟨op, key, val, num, ver⟩) = false)
        case' pos =>
          by_cases h4 : (val.size : Int) ≤ 500
          case' neg => have HF := Lib.hid (decide_eq_false (fun h => h4 (HR.out.1 h).2.2.2.1) : decide (rightC ⟨op, key, val, num, ver⟩) = false)
          case' pos =>
            by_cases h5 : -1000000000000 ≤ num ∧ num ≤ 1000000000000
            case' neg => have HF := Lib.hid (decide_eq_false (fun h => h5 ⟨(HR.out.1 h).2.2.2.2.1, (HR.out.1 h).2.2.2.2.2.1⟩) : decide (rightC ⟨op, key, val, num, ver⟩) = false)
            case' pos =>
              by_cases h6 : 0 ≤ ver
              case' neg => have HF := Lib.hid (decide_eq_false (fun h => h6 (HR.out.1 h).2.2.2.2.2.2.1) : decide (rightC ⟨op, key, val, num, ver⟩) = false)
              case' pos =>
                have HF := Lib.hid (show decide (rightC ⟨op, key, val, num, ver⟩) = decide (ver ≤ 1000000000000) by
                  rw [Bool.eq_iff_iff, decide_eq_true_iff, decide_eq_true_iff, HR.out]
                  exact ⟨fun h => h.2.2.2.2.2.2.2, fun h => ⟨h1, rfl, h3, h4, h5.1, h5.2, h6, h⟩⟩)
    all_goals
      try rw [show (decide (-1000000000000 ≤ num) && decide (num ≤ 1000000000000)) = true by rw [decide_eq_true h5.1, decide_eq_true h5.2]; rfl] at HN
      try rw [show (decide (-1000000000000 ≤ num) && decide (num ≤ 1000000000000)) = false by rw [← Bool.not_eq_true, Bool.and_eq_true, decide_eq_true_iff, decide_eq_true_iff]; exact h5] at HN
      try clear h5
      clear HR
      go_wp2_with (first
        | (go_at_call 84; refine (HC.out _).mono ?_; rintro e w1 ⟨rfl, rfl⟩)
        | (go_at_call 85; refine (HN.out _).mono ?_; rintro e w1 ⟨rfl, rfl⟩))
      go_ret
      rw [HF.out]
      exact ⟨rfl, HK.out⟩
end Go.Proofs.YtekcjoogggoijaaGreatDoor
namespace Go.Proofs.YtekcjoogggoijaaGreatDoor
open Go.RowKit
set_option maxRecDepth 100000

/-- A command's box. -/
def cmO (x : Cm) : Obj := .cells #[.int .i64 x.op, .string x.key, .string x.val, .int .i64 x.num, .int .i64 x.ver] 39
theorem cm_facts {w : World} {b : Nat} {x : Cm} (h : w.heap[b]? = some (cmO x)) : w.cell? ⟨b, 0, none⟩ = some (.int .i64 x.op) ∧ w.cell? ⟨b, 1, none⟩ = some (.string x.key) ∧ w.cell? ⟨b, 2, none⟩ = some (.string x.val) ∧ w.cell? ⟨b, 3, none⟩ = some (.int .i64 x.num) ∧ w.cell? ⟨b, 4, none⟩ = some (.int .i64 x.ver) ∧ b < w.heap.size :=
  ⟨cell_at h 0, cell_at h 1, cell_at h 2, cell_at h 3, cell_at h 4, lt_of_block h⟩
section
variable {w0 wr : World} {c : Nat} {O0 : Nat → Prop} {s : CSt} {B : List (Nat × Obj)}
theorem Bes.of_steps {w' : World} {s' : CSt} {O' : Nat → Prop} (hG : Grew O0 w0 O' wr) (h3 : ∀ p ∈ B, ¬ O' p.1) (hb : ∀ p ∈ B, wr.heap[p.1]? = some p.2 ∧ w0.heap.size ≤ p.1) (gl : ∀ k, isG k → k < w0.heap.size) (nd : (B.map Prod.fst).Nodup) (hst : Steps wr c O' s' w') : Bes w0 c O0 s' B w' := by
  obtain ⟨O'', g1, g2⟩ := hst
  exact ⟨⟨O'', g1, hG.trans g2, fun p hp => (g2.other (hb p hp).1 (h3 p hp)).2⟩, fun p hp => ⟨(g2.other (hb p hp).1 (h3 p hp)).1, (hb p hp).2⟩, gl, nd⟩
/-- Get, and the item's box: laid behind it, or ahead. -/
theorem Bes.got (h : Bes w0 c O0 s B wr) (key : ByteArray) (hkey : key.size ≤ 1000000) : ∃ bt, wr.cell? ⟨c, 1, none⟩ = some (.pointer (some ⟨bt, 0, none⟩)) ∧
    (Calls Tryz.prog 41 #[.pointer (some ⟨bt, 0, none⟩), .string key] wr.drew fun e w3 => e = .returned (gotV (look s.U key)) ∧ Hid (∀ y, Bes w0 c O0 s ((w3.heap.size, itBox y) :: B) (w3.alloc (itBox y)))) ∧
    (Calls Tryz.prog 41 #[.pointer (some ⟨bt, 0, none⟩), .string key] (wr.alloc (.cells #[.string { data := #[] }, .string { data := #[] }, .int .i64 0, .int .i64 0] 44)).drew fun e w3 => e = .returned (gotV (look s.U key)) ∧ w3.heap[wr.heap.size]? = some zBox ∧ Hid (∀ y, Bes w0 c O0 s ((wr.heap.size, itBox y) :: B) (over4 w3 wr.heap.size y))) := by
  obtain ⟨O', h1, h2, h3⟩ := h.cs
  obtain ⟨bt, t1, hg, _⟩ := cs_open h1
  have hk1 : Kept (fun _ => False) wr wr.drew := (Kept.refl _ wr).drew
  have hk2 : Kept (fun _ => False) wr (wr.alloc zBox).drew := ((Kept.refl _ wr).alloc _).drew
  have hB2 := (h.alloc zBox).kept0 ((Kept.refl _ (wr.alloc zBox)).drew)
  refine ⟨bt, t1, (hg _ key hk1 hkey).mono ?_, (hg _ key hk2 hkey).mono ?_⟩
  · rintro e w' ⟨rfl, hst⟩
    have hB := Bes.of_steps (h2.kept hk1) h3 (h.kept0 hk1).box h.gl h.nd hst
    exact ⟨rfl, Lib.hid fun y => hB.alloc _⟩
  · rintro e w' ⟨rfl, hst⟩
    have hB := Bes.of_steps (B := (wr.heap.size, zBox) :: B) (h2.kept hk2) (fun p hp => by
      rcases List.mem_cons.1 hp with rfl | hp
      · exact fun hO => by have := h1.lt hO; simp at this
      · exact h3 p hp) hB2.box h.gl hB2.nd hst
    have hz := (hB.box (wr.heap.size, zBox) (.head _)).1
    exact ⟨rfl, hz, Lib.hid fun y => hB.over (over4_kept _ _ _) (over4_block hz y)⟩
end

set_option maxHeartbeats 16000000 in
theorem cset (c : Nat) (O : Nat → Prop) (s : CSt) (x : Cm) (now : Int) (w : World) (h : CS w c O s) (hf : FitC s) (hk : x.key.size ≤ 60) (hv : x.val.size ≤ 500) (hn0 : -1000000000000 ≤ x.num) (hn1 : x.num ≤ 1000000000000) (h0 : 0 ≤ now) (h1 : now ≤ 1000000000000)
    (hop : x.op = 2 ∨ x.op = 3 ∨ x.op = 4 ∨ x.op = 6) :
    Calls Tryz.prog 27 #[.pointer (some ⟨c, 0, none⟩), .agg #[.int .i64 x.op, .string x.key, .string x.val, .int .i64 x.num, .int .i64 x.ver], .int .i64 now] w fun e w' => e = .returned (rpV (setC s x now).1 (.slice none 0 0)) ∧ Steps w c O (setC s x now).2 w' := by
  have hB := two_boxes h (cmO x) zRp
  obtain ⟨rb, hrb⟩ : ∃ rb, rb = w.heap.size + 1 := ⟨_, rfl⟩
  obtain ⟨xb, hxb⟩ : ∃ xb, xb = w.heap.size := ⟨_, rfl⟩
  obtain ⟨W0, hW0⟩ : ∃ W0, W0 = (w.alloc (cmO x)).alloc zRp := ⟨_, rfl⟩
  rw [← hrb, ← hxb, ← hW0] at hB
  have hnd := h.nodup
  have hhas := look_has s.U x.key
  obtain ⟨bt, t1, GA, GB⟩ := hB.got x.key (by omega)
  obtain ⟨_, _, _, _, _, _, _, kc⟩ := hB.cells
  obtain ⟨m0, m1, m2, m3, m4, m5⟩ := cm_facts (hB.box (xb, cmO x) (.tail _ (.head _))).1
  have HSET : Hid (setC s x now = if x.num < 0 then (Rp.err 1, s) else if x.op = 3 ∧ (look s.U x.key).isSome = true then (Rp.err 10, s) else if (x.op = 4 ∨ x.op = 6) ∧ (look s.U x.key).isSome = false then (Rp.err 9, s)
      else if x.op = 6 ∧ x.ver ≠ ((look s.U x.key).getD It.none).ver then (Rp.err 11, s) else writeC s ⟨x.key, x.val, 0, untilC x.num now⟩) := Lib.hid (by unfold setC; rw [hhas])
  generalize hwas : (look s.U x.key).getD It.none = was at *
  generalize his : (look s.U x.key).isSome = is at *
  have hgv : gotV (look s.U x.key) = .tuple #[.agg #[.string was.key, .string was.val, .int .i64 was.ver, .int .i64 was.til], .bool is] := by rw [← hwas, ← his]; rfl
  rw [hgv] at GA GB
  have HGA := Lib.hid GA
  have HGB := Lib.hid GB
  have HW0 := Lib.hid hW0
  clear h hgv hnd hhas hwas his GA GB hB
  go_enter Tryz.func27, Tryz.ntmps27
  go_wp2_with fail
  rw [← hrb, ← hxb, ← show W0 = (w.alloc (.cells #[.int .i64 x.op, .string x.key, .string x.val, .int .i64 x.num, .int .i64 x.ver] 39)).alloc (.cells #[.int .i64 0, .string { data := #[] }, .int .i64 0, .int .i64 0, .slice none 0 0] 51) from hW0]
  clear hW0 hrb hxb
  go_cut [7, 8] (fun p isv wr => isv = .bool is ∧ ∃ q, p = .pointer (some ⟨q, 0, none⟩) ∧ Bes w c O s [(q, itBox was), (rb, zRp), (xb, cmO x)] wr)
  case first =>
    go_region_with (go_at_call 41; first
      | ((with_reducible refine HGA.out.mono ?_); rintro e w3 ⟨rfl, FINQ⟩; have FINQ1 := Lib.hid (FINQ.out was); clear FINQ)
      | ((with_reducible refine HGB.out.mono ?_); rintro e w3 ⟨rfl, hbz, FINQ⟩; have FINQ1 := Lib.hid (FINQ.out was); have z0 := cell_at hbz 0; have z1 := cell_at hbz 1; have z2 := cell_at hbz 2; have z3 := cell_at hbz 3; have y0 := frozen_at hbz 0; have y1 := frozen_at hbz 1; have y2 := frozen_at hbz 2; have y3 := frozen_at hbz 3; simp at z0 z1 z2 z3; clear hbz FINQ))
    all_goals
      go_wp2_with fail
      go_meet
      case rel => exact ⟨rfl, _, rfl, FINQ1.out⟩
  case rest =>
    obtain ⟨rfl, q, rfl, hB⟩ := hcut
    clear HGA HGB HW0 m0 m1 m2 m3 m4 m5 kc t1
    have hrx := (hB.box (rb, zRp) (.tail _ (.head _))).1
    obtain ⟨m0, m1, m2, m3, m4, m5⟩ := cm_facts (hB.box (xb, cmO x) (.tail _ (.tail _ (.head _)))).1
    obtain ⟨_, _, _, _, q0, q1, q2, q3, q4⟩ := it_facts (hB.box (q, itBox was) (.head _)).1
    obtain ⟨z0, z1, z2, z3, z4, y0, y1, y2, y3, y4, y5⟩ := z_facts hrx
    have RET := Lib.hid hB.drop.rets
    have WR := Lib.hid (fun (W : World) (hkW : Kept (fun _ => False) wc W) => (hB.kept0 hkW).write hf ⟨x.key, x.val, 0, untilC x.num now⟩ (by simp only; omega) (by simp only; omega))
    have UN := Lib.hid (fun (W : World) => until_any x.num now W hn0 hn1 h0 h1)
    clear hB hrx
    have HS := HSET.out
    by_cases hneg : x.num < 0
    · rw [if_pos hneg] at HS
      have HW : Hid (setC s x now = (Rp.err 1, s)) := Lib.hid (HS)
      clear HSET HS
      go_wp2_with fail
      (try simp only [Exit.inBlock, Exit.then])
      refine bodyPost_ret (results_cell_row rfl _ _ rb _ _ _ _ rfl (RET.out (Rp.err 1) (.slice none 0 0)).1 Tryz.underlying51 rfl rp_size) rfl ?_
      rw [HW.out]
      exact ⟨rfl, (RET.out (Rp.err 1) (.slice none 0 0)).2⟩
    · rw [if_neg hneg] at HS
      obtain ⟨op, key, val, num, ver⟩ := x
      simp only at *
      rcases hop with rfl | rfl | rfl | rfl
      · rw [if_neg (fun h => by cases h.1), if_neg (fun h => by rcases h.1 with h | h <;> cases h), if_neg (fun h => by cases h.1)] at HS
        have HW : Hid (setC s ⟨_, key, val, num, _⟩ now = writeC s ⟨key, val, 0, untilC num now⟩) := Lib.hid (HS)
        clear HSET HS
        go_wp2_with fail
        refine wp_region_still_tail 10 (by kernel_rfl) (by kernel_rfl) ?_
        simp only [List.take_succ_cons, List.take_zero, List.drop_succ_cons, List.drop_zero]
        repeat still_step
        still_call ((UN.out _).mono fun _ _ h => ⟨h.1, h.2.symm⟩)
        repeat still_step
        refine wpStill_nil ?_
        change wpList _ _ _ _ _ wc.drew
        go_wp2_with fail
        refine (WR.out _ ((Kept.refl _ wc).drew)).mono ?_
        rintro e w4 ⟨rfl, hB4⟩
        obtain ⟨z0, z1, z2, z3, z4, y0, y1, y2, y3, y4, y5⟩ := z_facts (hB4.box (rb, zRp) (.tail _ (.head _))).1
        have RET4 := Lib.hid (hB4.drop.rets (writeC s ⟨key, val, 0, untilC num now⟩).1 (.slice none 0 0))
        clear hB4
        all_goals
          go_wp2_with fail
          (try simp only [Exit.inBlock, Exit.then])
          refine bodyPost_ret (results_cell_row rfl _ _ rb _ _ _ _ rfl RET4.out.1 Tryz.underlying51 rfl rp_size) rfl ?_
          rw [HW.out]
          exact ⟨rfl, RET4.out.2⟩
      · cases is with
        | true =>
          rw [if_pos ⟨rfl, rfl⟩] at HS
          have HW : Hid (setC s ⟨_, key, val, num, _⟩ now = (Rp.err 10, s)) := Lib.hid (HS)
          clear HSET HS
          go_wp2_with fail
          (try simp only [Exit.inBlock, Exit.then])
          refine bodyPost_ret (results_cell_row rfl _ _ rb _ _ _ _ rfl (RET.out (Rp.err 10) (.slice none 0 0)).1 Tryz.underlying51 rfl rp_size) rfl ?_
          rw [HW.out]
          exact ⟨rfl, (RET.out (Rp.err 10) (.slice none 0 0)).2⟩
        | false =>
          rw [if_neg (fun h => by cases h.2), if_neg (fun h => by rcases h.1 with h | h <;> cases h), if_neg (fun h => by cases h.1)] at HS
          have HW : Hid (setC s ⟨_, key, val, num, _⟩ now = writeC s ⟨key, val, 0, untilC num now⟩) := Lib.hid (HS)
          clear HSET HS
          go_wp2_with fail
          refine wp_region_still_tail 10 (by kernel_rfl) (by kernel_rfl) ?_
          simp only [List.take_succ_cons, List.take_zero, List.drop_succ_cons, List.drop_zero]
          repeat still_step
          still_call ((UN.out _).mono fun _ _ h => ⟨h.1, h.2.symm⟩)
          repeat still_step
          refine wpStill_nil ?_
          change wpList _ _ _ _ _ wc.drew
          go_wp2_with fail
          refine (WR.out _ ((Kept.refl _ wc).drew)).mono ?_
          rintro e w4 ⟨rfl, hB4⟩
          obtain ⟨z0, z1, z2, z3, z4, y0, y1, y2, y3, y4, y5⟩ := z_facts (hB4.box (rb, zRp) (.tail _ (.head _))).1
          have RET4 := Lib.hid (hB4.drop.rets (writeC s ⟨key, val, 0, untilC num now⟩).1 (.slice none 0 0))
          clear hB4
          all_goals
            go_wp2_with fail
            (try simp only [Exit.inBlock, Exit.then])
            refine bodyPost_ret (results_cell_row rfl _ _ rb _ _ _ _ rfl RET4.out.1 Tryz.underlying51 rfl rp_size) rfl ?_
            rw [HW.out]
            exact ⟨rfl, RET4.out.2⟩
      · cases is with
        | true =>
          rw [if_neg (fun h => by cases h.1), if_neg (fun h => by cases h.2), if_neg (fun h => by cases h.1)] at HS
          have HW : Hid (setC s ⟨_, key, val, num, _⟩ now = writeC s ⟨key, val, 0, untilC num now⟩) := Lib.hid (HS)
          clear HSET HS
          go_wp2_with fail
          refine wp_region_still_tail 10 (by kernel_rfl) (by kernel_rfl) ?_
          simp only [List.take_succ_cons, List.take_zero, List.drop_succ_cons, List.drop_zero]
          repeat still_step
          still_call ((UN.out _).mono fun _ _ h => ⟨h.1, h.2.symm⟩)
          repeat still_step
          refine wpStill_nil ?_
          change wpList _ _ _ _ _ wc.drew
          go_wp2_with fail
          refine (WR.out _ ((Kept.refl _ wc).drew)).mono ?_
          rintro e w4 ⟨rfl, hB4⟩
          obtain ⟨z0, z1, z2, z3, z4, y0, y1, y2, y3, y4, y5⟩ := z_facts (hB4.box (rb, zRp) (.tail _ (.head _))).1
          have RET4 := Lib.hid (hB4.drop.rets (writeC s ⟨key, val, 0, untilC num now⟩).1 (.slice none 0 0))
          clear hB4
          all_goals
            go_wp2_with fail
            (try simp only [Exit.inBlock, Exit.then])
            refine bodyPost_ret (results_cell_row rfl _ _ rb _ _ _ _ rfl RET4.out.1 Tryz.underlying51 rfl rp_size) rfl ?_
            rw [HW.out]
            exact ⟨rfl, RET4.out.2⟩
        | false =>
          rw [if_neg (fun h => by cases h.1), if_pos ⟨.inl rfl, rfl⟩] at HS
          have HW : Hid (setC s ⟨_, key, val, num, _⟩ now = (Rp.err 9, s)) := Lib.hid (HS)
          clear HSET HS
          go_wp2_with fail
          (try simp only [Exit.inBlock, Exit.then])
          refine bodyPost_ret (results_cell_row rfl _ _ rb _ _ _ _ rfl (RET.out (Rp.err 9) (.slice none 0 0)).1 Tryz.underlying51 rfl rp_size) rfl ?_
          rw [HW.out]
          exact ⟨rfl, (RET.out (Rp.err 9) (.slice none 0 0)).2⟩
      · cases is with
        | true =>
          by_cases hv : ver = was.ver
          · rw [if_neg (fun h => by cases h.1), if_neg (fun h => by cases h.2), if_neg (fun h => h.2 hv)] at HS
            subst hv
            have HW : Hid (setC s ⟨_, key, val, num, _⟩ now = writeC s ⟨key, val, 0, untilC num now⟩) := Lib.hid (HS)
            clear HSET HS
            go_wp2_with fail
            refine wp_region_still_tail 10 (by kernel_rfl) (by kernel_rfl) ?_
            simp only [List.take_succ_cons, List.take_zero, List.drop_succ_cons, List.drop_zero]
            repeat still_step
            still_call ((UN.out _).mono fun _ _ h => ⟨h.1, h.2.symm⟩)
            repeat still_step
            refine wpStill_nil ?_
            change wpList _ _ _ _ _ wc.drew
            go_wp2_with fail
            refine (WR.out _ ((Kept.refl _ wc).drew)).mono ?_
            rintro e w4 ⟨rfl, hB4⟩
            obtain ⟨z0, z1, z2, z3, z4, y0, y1, y2, y3, y4, y5⟩ := z_facts (hB4.box (rb, zRp) (.tail _ (.head _))).1
            have RET4 := Lib.hid (hB4.drop.rets (writeC s ⟨key, val, 0, untilC num now⟩).1 (.slice none 0 0))
            clear hB4
            all_goals
              go_wp2_with fail
              (try simp only [Exit.inBlock, Exit.then])
              refine bodyPost_ret (results_cell_row rfl _ _ rb _ _ _ _ rfl RET4.out.1 Tryz.underlying51 rfl rp_size) rfl ?_
              rw [HW.out]
              exact ⟨rfl, RET4.out.2⟩
          · have hne : (ver == was.ver) = false := by simpa using hv
            rw [if_neg (fun h => by cases h.1), if_neg (fun h => by cases h.2), if_pos ⟨rfl, hv⟩] at HS
            have HW : Hid (setC s ⟨_, key, val, num, _⟩ now = (Rp.err 11, s)) := Lib.hid (HS)
            clear HSET HS
            go_wp2_with fail
            (try simp only [Exit.inBlock, Exit.then])
            refine bodyPost_ret (results_cell_row rfl _ _ rb _ _ _ _ rfl (RET.out (Rp.err 11) (.slice none 0 0)).1 Tryz.underlying51 rfl rp_size) rfl ?_
            rw [HW.out]
            exact ⟨rfl, (RET.out (Rp.err 11) (.slice none 0 0)).2⟩
        | false =>
          rw [if_neg (fun h => by cases h.1), if_pos ⟨.inr rfl, rfl⟩] at HS
          have HW : Hid (setC s ⟨_, key, val, num, _⟩ now = (Rp.err 9, s)) := Lib.hid (HS)
          clear HSET HS
          go_wp2_with fail
          (try simp only [Exit.inBlock, Exit.then])
          refine bodyPost_ret (results_cell_row rfl _ _ rb _ _ _ _ rfl (RET.out (Rp.err 9) (.slice none 0 0)).1 Tryz.underlying51 rfl rp_size) rfl ?_
          rw [HW.out]
          exact ⟨rfl, (RET.out (Rp.err 9) (.slice none 0 0)).2⟩
end Go.Proofs.YtekcjoogggoijaaGreatDoor
