/-
  Package cache's walks, the twelfth part: item. (Printed by wip/tools/gen_item.py.)
-/
import Derived.Test.YtekcjoogggoijaaGreatDoorCp19
set_option linter.unusedVariables false
set_option linter.unusedSimpArgs false
set_option linter.unnecessarySimpa false
namespace Go.Proofs.YtekcjoogggoijaaGreatDoor
open Go.RowKit
set_option maxRecDepth 100000

section
variable {w0 wr : World} {c : Nat} {O0 : Nat → Prop} {s : CSt} {B : List (Nat × Obj)}
theorem Bes.incr (h : Bes w0 c O0 s B wr) (hf : FitC s) (x : It) (n : Int) (hk : x.key.size ≤ 1000) (hv : x.val.size ≤ 1000) (hn0 : -1000000000000 ≤ n) (hn1 : n ≤ 1000000000000) :
    Calls Tryz.prog 82 #[.pointer (some ⟨c, 0, none⟩), .agg #[.string x.key, .string x.val, .int .i64 x.ver, .int .i64 x.til], .int .i64 n] wr fun e w' => e = .returned (.agg #[.int .i64 (incrC s x n).1.errno, .string (incrC s x n).1.val, .int .i64 (incrC s x n).1.num, .int .i64 (incrC s x n).1.ver, .slice none 0 0]) ∧ Bes w0 c O0 (incrC s x n).2 B w' :=
  h.calls fun O' h' => cincr c O' s x n wr h' hf hk hv hn0 hn1
theorem Bes.behind (h : Bes w0 c O0 s B wr) (hf : FitC s) (x : It) (more : ByteArray) (hk : x.key.size ≤ 1000) (hv : x.val.size ≤ 1000) (hm : more.size ≤ 1000) :
    Calls Tryz.prog 83 #[.pointer (some ⟨c, 0, none⟩), .agg #[.string x.key, .string x.val, .int .i64 x.ver, .int .i64 x.til], .string more] wr fun e w' => e = .returned (.agg #[.int .i64 (behindC s x more).1.errno, .string (behindC s x more).1.val, .int .i64 (behindC s x more).1.num, .int .i64 (behindC s x more).1.ver, .slice none 0 0]) ∧ Bes w0 c O0 (behindC s x more).2 B w' :=
  h.calls fun O' h' => cbehind c O' s x more wr h' hf hk hv hm
theorem Bes.put (h : Bes w0 c O0 s B wr) (hf : FitC s) (x : It) (hk : x.key.size ≤ 1000) (hv : x.val.size ≤ 1000) :
    Calls Tryz.prog 81 #[.pointer (some ⟨c, 0, none⟩), .agg #[.string x.key, .string x.val, .int .i64 x.ver, .int .i64 x.til]] wr fun e w' => e = .returned (.tuple #[]) ∧ Bes w0 c O0 { s with U := putC s.U x } B w' :=
  h.calls fun O' h' => cput c O' s x wr h' (by have := hf.used; omega) (by omega) (by omega)
theorem Bes.del (h : Bes w0 c O0 s B wr) (hf : FitC s) (key : ByteArray) (hk : key.size ≤ 1000) :
    Calls Tryz.prog 77 #[.pointer (some ⟨c, 0, none⟩), .string key] wr fun e w' => e = .returned (.tuple #[]) ∧ Bes w0 c O0 { s with U := delL s.U key } B w' :=
  h.calls fun O' h' => cdel c O' s key wr h' (by have := hf.used; omega) (by omega)
end

set_option maxHeartbeats 16000000 in
theorem citem (c : Nat) (O : Nat → Prop) (s : CSt) (x : Cm) (now : Int) (w : World) (h : CS w c O s) (hf : FitC s) (hk : x.key.size ≤ 60) (hv : x.val.size ≤ 500) (hn0 : -1000000000000 ≤ x.num) (hn1 : x.num ≤ 1000000000000) (h0 : 0 ≤ now) (h1 : now ≤ 1000000000000)
    (hop : x.op = 1 ∨ x.op = 5 ∨ x.op = 7 ∨ x.op = 8 ∨ x.op = 9 ∨ x.op = 10) :
    Calls Tryz.prog 30 #[.pointer (some ⟨c, 0, none⟩), .agg #[.int .i64 x.op, .string x.key, .string x.val, .int .i64 x.num, .int .i64 x.ver], .int .i64 now] w fun e w' => e = .returned (rpV (itemC s x now).1 (.slice none 0 0)) ∧ Steps w c O (itemC s x now).2 w' := by
  have hB := two_boxes h (cmO x) zRp
  obtain ⟨rb, hrb⟩ : ∃ rb, rb = w.heap.size + 1 := ⟨_, rfl⟩
  obtain ⟨xb, hxb⟩ : ∃ xb, xb = w.heap.size := ⟨_, rfl⟩
  obtain ⟨W0, hW0⟩ : ∃ W0, W0 = (w.alloc (cmO x)).alloc zRp := ⟨_, rfl⟩
  rw [← hrb, ← hxb, ← hW0] at hB
  have hnd := h.nodup
  obtain ⟨bt, t1, GA, GB⟩ := hB.got x.key (by omega)
  obtain ⟨_, _, _, _, _, _, _, kc⟩ := hB.cells
  obtain ⟨m0, m1, m2, m3, m4, m5⟩ := cm_facts (hB.box (xb, cmO x) (.tail _ (.head _))).1
  have hwk : ∀ was, look s.U x.key = some was → was.key.size ≤ 1000 ∧ was.val.size ≤ 1000 ∧ 0 ≤ was.til ∧ was.til ≤ 2000000000000 := by
    intro was hl
    have hm := ((look_mem hnd).1 hl).1
    exact ⟨hf.keyl was hm, hf.vall was hm, hf.til was hm⟩
  have HWK := Lib.hid hwk
  have HS : Hid (∀ o, look s.U x.key = o → itemC s x now = if x.op = 9 ∧ x.num < 0 then (Rp.err 1, s)
    else match o with
      | none => (Rp.err 9, s)
      | some was =>
        if x.op = 1 then (⟨0, was.val, 0, was.ver, []⟩, { s with U := putC s.U was })
        else if x.op = 10 then (if was.til = 0 then ⟨0, ⟨#[]⟩, -1, 0, []⟩ else ⟨0, ⟨#[]⟩, was.til - now, 0, []⟩, s)
        else if x.op = 5 then (Rp.err 0, { s with U := delL s.U x.key })
        else if x.op = 9 then (Rp.err 0, { s with U := putC s.U ⟨was.key, was.val, was.ver, untilC x.num now⟩ })
        else if x.op = 7 then incrC s was x.num
        else behindC s was x.val) := Lib.hid (fun o ho => by subst ho; rfl)
  generalize hlk : look s.U x.key = lk at *
  generalize hwas : lk.getD It.none = was at *
  generalize his : lk.isSome = is at *
  have hgv : gotV lk = .tuple #[.agg #[.string was.key, .string was.val, .int .i64 was.ver, .int .i64 was.til], .bool is] := by rw [← hwas, ← his]; rfl
  rw [hgv] at GA GB
  have HGA := Lib.hid GA
  have HGB := Lib.hid GB
  have HW0 := Lib.hid hW0
  have HLK := Lib.hid hlk
  have HWAS := Lib.hid hwas
  have HIS := Lib.hid his
  clear h hgv hnd hwas his GA GB hB hlk hwk
  go_enter Tryz.func30, Tryz.ntmps30
  go_wp2_with fail
  rw [← hrb, ← hxb, ← show W0 = (w.alloc (.cells #[.int .i64 x.op, .string x.key, .string x.val, .int .i64 x.num, .int .i64 x.ver] 39)).alloc (.cells #[.int .i64 0, .string { data := #[] }, .int .i64 0, .int .i64 0, .slice none 0 0] 51) from hW0]
  clear hW0 hrb hxb
  go_cut [7, 8] (fun p isv wr => isv = .bool is ∧ ∃ q, p = .pointer (some ⟨q, 0, none⟩) ∧ Bes w c O s [(q, itBox was), (rb, zRp), (xb, cmO x)] wr)
  case first =>
    go_region_with (go_at_call 41; first
      | ((with_reducible refine HGA.out.mono ?_); rintro e w3 ⟨rfl, FINQ⟩; have FINQ1 := Lib.hid (FINQ.out was); clear FINQ)
      | ((with_reducible refine HGB.out.mono ?_); rintro e w3 ⟨rfl, hbz, FINQ⟩; have FINQ1 := Lib.hid (FINQ.out was); have z0 := cell_at hbz 0; have z1 := cell_at hbz 1; have z2 := cell_at hbz 2; have z3 := cell_at hbz 3; have y0 := frozen_at hbz 0; have y1 := frozen_at hbz 1; have y2 := frozen_at hbz 2; have y3 := frozen_at hbz 3; simp at z0 z1 z2 z3; clear hbz FINQ))
    all_goals
      go_wp2_with fail
      go_meet
      case rel => exact ⟨rfl, _, rfl, FINQ1.out⟩
  case rest =>
    obtain ⟨rfl, q, rfl, hB⟩ := hcut
    clear HGA HGB HW0 m0 m1 m2 m3 m4 m5 kc t1
    have hrx := (hB.box (rb, zRp) (.tail _ (.head _))).1
    obtain ⟨m0, m1, m2, m3, m4, m5⟩ := cm_facts (hB.box (xb, cmO x) (.tail _ (.tail _ (.head _)))).1
    obtain ⟨v0, v1, v2, v3, q0, q1, q2, q3, q4⟩ := it_facts (hB.box (q, itBox was) (.head _)).1
    obtain ⟨z0, z1, z2, z3, z4, y0, y1, y2, y3, y4, y5⟩ := z_facts hrx
    have RET := Lib.hid hB.drop.rets
    have HB := Lib.hid hB
    have HF := Lib.hid hf
    clear hB hrx hf
    obtain ⟨op, key, val, num, ver⟩ := x
    simp only at m0 m1 m2 m3 m4 hk hv hn0 hn1 hop
    cases lk with
    | none =>
      obtain ⟨rfl⟩ := HIS
      simp only [Option.isSome_none]
      by_cases h9 : op = 9
      · subst h9
        by_cases hneg : num < 0
        · have HW : Hid (itemC s ⟨_, key, val, num, _⟩ now = (Rp.err 1, s)) := Lib.hid (by rw [HS.out none rfl]; exact if_pos ⟨rfl, hneg⟩)
          clear HS
          go_wp2_with fail
          (try simp only [Exit.inBlock, Exit.then])
          refine bodyPost_ret (results_cell_row rfl _ _ rb _ _ _ _ rfl (RET.out (Rp.err 1) (.slice none 0 0)).1 Tryz.underlying51 rfl rp_size) rfl ?_
          rw [HW.out]
          exact ⟨rfl, (RET.out (Rp.err 1) (.slice none 0 0)).2⟩
        · have HW : Hid (itemC s ⟨_, key, val, num, _⟩ now = (Rp.err 9, s)) := Lib.hid (by rw [HS.out none rfl]; exact if_neg (fun h => hneg h.2))
          clear HS
          go_wp2_with fail
          (try simp only [Exit.inBlock, Exit.then])
          refine bodyPost_ret (results_cell_row rfl _ _ rb _ _ _ _ rfl (RET.out (Rp.err 9) (.slice none 0 0)).1 Tryz.underlying51 rfl rp_size) rfl ?_
          rw [HW.out]
          exact ⟨rfl, (RET.out (Rp.err 9) (.slice none 0 0)).2⟩
      · have e9 : (op == 9) = false := by simpa using h9
        have HW : Hid (itemC s ⟨_, key, val, num, _⟩ now = (Rp.err 9, s)) := Lib.hid (by rw [HS.out none rfl]; exact if_neg (fun h => h9 h.1))
        clear HS
        go_wp2_with fail
        (try simp only [Exit.inBlock, Exit.then])
        refine bodyPost_ret (results_cell_row rfl _ _ rb _ _ _ _ rfl (RET.out (Rp.err 9) (.slice none 0 0)).1 Tryz.underlying51 rfl rp_size) rfl ?_
        rw [HW.out]
        exact ⟨rfl, (RET.out (Rp.err 9) (.slice none 0 0)).2⟩
    | some it =>
      obtain ⟨rfl⟩ := HIS
      obtain ⟨rfl⟩ := HWAS
      simp only [Option.isSome_some, Option.getD_some] at *
      obtain ⟨u0, u1, u2, u3⟩ := HWK.out it rfl
      rcases hop with rfl | rfl | rfl | rfl | rfl | rfl
      · have HW : Hid (itemC s ⟨_, key, val, num, _⟩ now = (⟨0, it.val, 0, it.ver, []⟩, { s with U := putC s.U it })) := Lib.hid (by rw [HS.out (some it) rfl]; exact (if_neg (fun h => by cases h.1)).trans (if_pos rfl))
        clear HS
        have PUT := Lib.hid (HB.out.put HF.out it u0 u1)
        go_wp2_with fail
        refine PUT.out.mono ?_
        rintro e w4 ⟨rfl, hB4⟩
        obtain ⟨z0, z1, z2, z3, z4, y0, y1, y2, y3, y4, y5⟩ := z_facts (hB4.box (rb, zRp) (.tail _ (.head _))).1
        obtain ⟨_, _, _, _, q0, q1, q2, q3, q4⟩ := it_facts (hB4.box (q, itBox it) (.head _)).1
        have RET4 := Lib.hid hB4.drop.rets
        clear hB4
        go_wp2_with fail
        (try simp only [Exit.inBlock, Exit.then])
        refine bodyPost_ret (results_cell_row rfl _ _ rb _ _ _ _ rfl (RET4.out ⟨0, it.val, 0, it.ver, []⟩ (.slice none 0 0)).1 Tryz.underlying51 rfl rp_size) rfl ?_
        rw [HW.out]
        exact ⟨rfl, (RET4.out ⟨0, it.val, 0, it.ver, []⟩ (.slice none 0 0)).2⟩
      · have HW : Hid (itemC s ⟨_, key, val, num, _⟩ now = (Rp.err 0, { s with U := delL s.U key })) := Lib.hid (by rw [HS.out (some it) rfl]; exact (if_neg (fun h => by cases h.1)).trans ((if_neg (by decide)).trans ((if_neg (by decide)).trans (if_pos rfl))))
        clear HS
        have DEL := Lib.hid (HB.out.del HF.out key (by omega))
        go_wp2_with fail
        refine DEL.out.mono ?_
        rintro e w4 ⟨rfl, hB4⟩
        obtain ⟨z0, z1, z2, z3, z4, y0, y1, y2, y3, y4, y5⟩ := z_facts (hB4.box (rb, zRp) (.tail _ (.head _))).1
        obtain ⟨_, _, _, _, q0, q1, q2, q3, q4⟩ := it_facts (hB4.box (q, itBox it) (.head _)).1
        have RET4 := Lib.hid hB4.drop.rets
        clear hB4
        go_wp2_with fail
        (try simp only [Exit.inBlock, Exit.then])
        refine bodyPost_ret (results_cell_row rfl _ _ rb _ _ _ _ rfl (RET4.out (Rp.err 0) (.slice none 0 0)).1 Tryz.underlying51 rfl rp_size) rfl ?_
        rw [HW.out]
        exact ⟨rfl, (RET4.out (Rp.err 0) (.slice none 0 0)).2⟩
      · have HW : Hid (itemC s ⟨_, key, val, num, _⟩ now = incrC s it num) := Lib.hid (by rw [HS.out (some it) rfl]; exact (if_neg (fun h => by cases h.1)).trans ((if_neg (by decide)).trans ((if_neg (by decide)).trans ((if_neg (by decide)).trans ((if_neg (by decide)).trans (if_pos rfl))))))
        clear HS
        have INC := Lib.hid (HB.out.incr HF.out it num u0 u1 hn0 hn1)
        go_wp2_with fail
        refine INC.out.mono ?_
        rintro e w4 ⟨rfl, hB4⟩
        obtain ⟨z0, z1, z2, z3, z4, y0, y1, y2, y3, y4, y5⟩ := z_facts (hB4.box (rb, zRp) (.tail _ (.head _))).1
        obtain ⟨_, _, _, _, q0, q1, q2, q3, q4⟩ := it_facts (hB4.box (q, itBox it) (.head _)).1
        have RET4 := Lib.hid hB4.drop.rets
        clear hB4
        go_wp2_with fail
        (try simp only [Exit.inBlock, Exit.then])
        refine bodyPost_ret (results_cell_row rfl _ _ rb _ _ _ _ rfl (RET4.out (incrC s it num).1 (.slice none 0 0)).1 Tryz.underlying51 rfl rp_size) rfl ?_
        rw [HW.out]
        exact ⟨rfl, (RET4.out (incrC s it num).1 (.slice none 0 0)).2⟩
      · have HW : Hid (itemC s ⟨_, key, val, num, _⟩ now = behindC s it val) := Lib.hid (by rw [HS.out (some it) rfl]; exact (if_neg (fun h => by cases h.1)).trans ((if_neg (by decide)).trans ((if_neg (by decide)).trans ((if_neg (by decide)).trans ((if_neg (by decide)).trans (if_neg (by decide)))))))
        clear HS
        have BEH := Lib.hid (HB.out.behind HF.out it val u0 u1 (by omega))
        go_wp2_with fail
        refine BEH.out.mono ?_
        rintro e w4 ⟨rfl, hB4⟩
        obtain ⟨z0, z1, z2, z3, z4, y0, y1, y2, y3, y4, y5⟩ := z_facts (hB4.box (rb, zRp) (.tail _ (.head _))).1
        obtain ⟨_, _, _, _, q0, q1, q2, q3, q4⟩ := it_facts (hB4.box (q, itBox it) (.head _)).1
        have RET4 := Lib.hid hB4.drop.rets
        clear hB4
        go_wp2_with fail
        (try simp only [Exit.inBlock, Exit.then])
        refine bodyPost_ret (results_cell_row rfl _ _ rb _ _ _ _ rfl (RET4.out (behindC s it val).1 (.slice none 0 0)).1 Tryz.underlying51 rfl rp_size) rfl ?_
        rw [HW.out]
        exact ⟨rfl, (RET4.out (behindC s it val).1 (.slice none 0 0)).2⟩
      · by_cases hneg : num < 0
        · have HW : Hid (itemC s ⟨_, key, val, num, _⟩ now = (Rp.err 1, s)) := Lib.hid (by rw [HS.out (some it) rfl]; exact if_pos ⟨rfl, hneg⟩)
          clear HS
          go_wp2_with fail
          (try simp only [Exit.inBlock, Exit.then])
          refine bodyPost_ret (results_cell_row rfl _ _ rb _ _ _ _ rfl (RET.out (Rp.err 1) (.slice none 0 0)).1 Tryz.underlying51 rfl rp_size) rfl ?_
          rw [HW.out]
          exact ⟨rfl, (RET.out (Rp.err 1) (.slice none 0 0)).2⟩
        · have HW : Hid (itemC s ⟨_, key, val, num, _⟩ now = (Rp.err 0, { s with U := putC s.U ⟨it.key, it.val, it.ver, untilC num now⟩ })) := Lib.hid (by rw [HS.out (some it) rfl]; exact (if_neg (fun h => hneg h.2)).trans ((if_neg (by decide)).trans ((if_neg (by decide)).trans ((if_neg (by decide)).trans (if_pos rfl)))))
          clear HS
          have UN := Lib.hid (fun (W : World) => until_any num now W hn0 hn1 h0 h1)
          have hB2 := HB.out.over (o' := itBox ⟨it.key, it.val, it.ver, untilC num now⟩) (kept_at (o := 3) (.int .i64 (untilC num now)) (Kept.refl _ _)) (by rw [setCell_block (HB.out.box (q, itBox it) (.head _)).1]; rfl)
          have PUT := Lib.hid (hB2.put HF.out ⟨it.key, it.val, it.ver, untilC num now⟩ u0 u1)
          obtain ⟨_, _, _, _, x0, x1, x2, x3, x4⟩ := it_facts (hB2.box (q, itBox ⟨it.key, it.val, it.ver, untilC num now⟩) (.head _)).1
          simp only at x0 x1 x2 x3
          clear hB2
          go_wp2_with fail
          refine (UN.out _).mono ?_
          rintro e w3 ⟨rfl, rfl⟩
          go_wp2_with fail
          refine PUT.out.mono ?_
          rintro e w4 ⟨rfl, hB4⟩
          obtain ⟨z0, z1, z2, z3, z4, y0, y1, y2, y3, y4, y5⟩ := z_facts (hB4.box (rb, zRp) (.tail _ (.head _))).1
          have RET4 := Lib.hid hB4.drop.rets
          clear hB4
          go_wp2_with fail
          (try simp only [Exit.inBlock, Exit.then])
          refine bodyPost_ret (results_cell_row rfl _ _ rb _ _ _ _ rfl (RET4.out (Rp.err 0) (.slice none 0 0)).1 Tryz.underlying51 rfl rp_size) rfl ?_
          rw [HW.out]
          exact ⟨rfl, (RET4.out (Rp.err 0) (.slice none 0 0)).2⟩
      · by_cases ht : it.til = 0
        · have HW : Hid (itemC s ⟨_, key, val, num, _⟩ now = (⟨0, ⟨#[]⟩, -1, 0, []⟩, s)) := Lib.hid (by rw [HS.out (some it) rfl]; exact (if_neg (fun h => by cases h.1)).trans ((if_neg (by decide)).trans ((if_pos rfl).trans (by rw [if_pos ht]))))
          clear HS
          rw [ht] at q3
          go_wp2_with fail
          (try simp only [Exit.inBlock, Exit.then])
          refine bodyPost_ret (results_cell_row rfl _ _ rb _ _ _ _ rfl (RET.out ⟨0, ⟨#[]⟩, -1, 0, []⟩ (.slice none 0 0)).1 Tryz.underlying51 rfl rp_size) rfl ?_
          rw [HW.out]
          exact ⟨rfl, (RET.out ⟨0, ⟨#[]⟩, -1, 0, []⟩ (.slice none 0 0)).2⟩
        · have HW : Hid (itemC s ⟨_, key, val, num, _⟩ now = (⟨0, ⟨#[]⟩, it.til - now, 0, []⟩, s)) := Lib.hid (by rw [HS.out (some it) rfl]; exact (if_neg (fun h => by cases h.1)).trans ((if_neg (by decide)).trans ((if_pos rfl).trans (by rw [if_neg ht]))))
          clear HS
          have ht' : (it.til == 0) = false := by simpa using ht
          have hwr : wrap64 (it.til - now) = it.til - now := by unfold wrap64; omega
          go_wp2_with fail
          (try simp only [Exit.inBlock, Exit.then])
          refine bodyPost_ret (results_cell_row rfl _ _ rb _ _ _ _ rfl (RET.out ⟨0, ⟨#[]⟩, it.til - now, 0, []⟩ (.slice none 0 0)).1 Tryz.underlying51 rfl rp_size) rfl ?_
          rw [HW.out]
          exact ⟨rfl, (RET.out ⟨0, ⟨#[]⟩, it.til - now, 0, []⟩ (.slice none 0 0)).2⟩
end Go.Proofs.YtekcjoogggoijaaGreatDoor
