/-
  Package cache's walks, the thirteenth part: Do, but Scan and Flush. (Printed by wip/tools/gen_do.py.)
-/
import Derived.Test.YtekcjoogggoijaaGreatDoorCp20
set_option linter.unusedVariables false
set_option linter.unusedSimpArgs false
set_option linter.unnecessarySimpa false
namespace Go.Proofs.YtekcjoogggoijaaGreatDoor
open Go.RowKit
set_option maxRecDepth 100000

theorem FitC.swept {s : CSt} (h : FitC s) (now : Int) : FitC { s with U := sweepC now s.U } :=
  ⟨h.b0, h.b1, Int.le_trans (usedL_filter_le _ _) h.used, h.v0, h.v1, h.g0, h.g1, fun x hx => h.keyl x (List.mem_filter.1 hx).1, fun x hx => h.vall x (List.mem_filter.1 hx).1, fun x hx => h.til x (List.mem_filter.1 hx).1⟩
section
variable {w0 wr : World} {c : Nat} {O0 : Nat → Prop} {s : CSt} {B : List (Nat × Obj)}
theorem Bes.sweep (h : Bes w0 c O0 s B wr) (hf : FitC s) (now : Int) (h0 : 0 ≤ now) (h1 : now ≤ 1000000000000) :
    Calls Tryz.prog 26 #[.pointer (some ⟨c, 0, none⟩), .int .i64 now] wr fun e w' => e = .returned (.tuple #[]) ∧ Bes w0 c O0 { s with U := sweepC now s.U } B w' :=
  h.calls fun O' h' => csweep c O' s now wr h' (by have := hf.used; omega) (fun x hx => by have := hf.keyl x hx; omega) h0 h1 hf.til
theorem Bes.setop (h : Bes w0 c O0 s B wr) (hf : FitC s) (x : Cm) (now : Int) (hk : x.key.size ≤ 60) (hv : x.val.size ≤ 500) (hn0 : -1000000000000 ≤ x.num) (hn1 : x.num ≤ 1000000000000) (h0 : 0 ≤ now) (h1 : now ≤ 1000000000000) (hop : x.op = 2 ∨ x.op = 3 ∨ x.op = 4 ∨ x.op = 6) :
    Calls Tryz.prog 27 #[.pointer (some ⟨c, 0, none⟩), .agg #[.int .i64 x.op, .string x.key, .string x.val, .int .i64 x.num, .int .i64 x.ver], .int .i64 now] wr fun e w' => e = .returned (.agg #[.int .i64 (setC s x now).1.errno, .string (setC s x now).1.val, .int .i64 (setC s x now).1.num, .int .i64 (setC s x now).1.ver, .slice none 0 0]) ∧ Bes w0 c O0 (setC s x now).2 B w' :=
  h.calls fun O' h' => cset c O' s x now wr h' hf hk hv hn0 hn1 h0 h1 hop
theorem Bes.itemop (h : Bes w0 c O0 s B wr) (hf : FitC s) (x : Cm) (now : Int) (hk : x.key.size ≤ 60) (hv : x.val.size ≤ 500) (hn0 : -1000000000000 ≤ x.num) (hn1 : x.num ≤ 1000000000000) (h0 : 0 ≤ now) (h1 : now ≤ 1000000000000) (hop : x.op = 1 ∨ x.op = 5 ∨ x.op = 7 ∨ x.op = 8 ∨ x.op = 9 ∨ x.op = 10) :
    Calls Tryz.prog 30 #[.pointer (some ⟨c, 0, none⟩), .agg #[.int .i64 x.op, .string x.key, .string x.val, .int .i64 x.num, .int .i64 x.ver], .int .i64 now] wr fun e w' => e = .returned (.agg #[.int .i64 (itemC s x now).1.errno, .string (itemC s x now).1.val, .int .i64 (itemC s x now).1.num, .int .i64 (itemC s x now).1.ver, .slice none 0 0]) ∧ Bes w0 c O0 (itemC s x now).2 B w' :=
  h.calls fun O' h' => citem c O' s x now wr h' hf hk hv hn0 hn1 h0 h1 hop
theorem Bes.len (h : Bes w0 c O0 s B wr) : ∃ bt, wr.cell? ⟨c, 1, none⟩ = some (.pointer (some ⟨bt, 0, none⟩)) ∧ ∀ W : World, Kept (fun _ => False) wr W → Calls Tryz.prog 29 #[.pointer (some ⟨bt, 0, none⟩)] W fun e w' => e = .returned (.int .i64 (s.U.length : Nat)) ∧ w' = W := by
  obtain ⟨O', h1, _⟩ := h.cs
  obtain ⟨bt, t1, _, _, hl⟩ := cs_open h1
  exact ⟨bt, t1, fun W hk => (hl W hk).mono fun _ _ h => ⟨h.1, h.2.symm⟩⟩
end

set_option maxHeartbeats 16000000 in
theorem cdo (c : Nat) (O : Nat → Prop) (s : CSt) (x : Cm) (now : Int) (w : World) (h : CS w c O s) (hf : FitC s) (hk : x.key.size ≤ 1000000000) (hv : x.val.size ≤ 1000000000) (h11 : x.op ≠ 11) (h12 : x.op ≠ 12) :
    Calls Tryz.prog 8 #[.pointer (some ⟨c, 0, none⟩), .agg #[.int .i64 x.op, .string x.key, .string x.val, .int .i64 x.num, .int .i64 x.ver], .int .i64 now] w fun e w' => e = .returned (rpV (doC s x now).1 (.slice none 0 0)) ∧ Steps w c O (doC s x now).2 w' := by
  have hB := two_boxes h (cmO x) zRp
  obtain ⟨rb, hrb⟩ : ∃ rb, rb = w.heap.size + 1 := ⟨_, rfl⟩
  obtain ⟨xb, hxb⟩ : ∃ xb, xb = w.heap.size := ⟨_, rfl⟩
  obtain ⟨W0, hW0⟩ : ∃ W0, W0 = (w.alloc (cmO x)).alloc zRp := ⟨_, rfl⟩
  rw [← hrb, ← hxb, ← hW0] at hB
  obtain ⟨bt, t1, _⟩ := hB.len
  have ht1 : w.cell? ⟨c, 1, none⟩ = some (.pointer (some ⟨bt, 0, none⟩)) := by
    obtain ⟨bt', t1', _⟩ := cs_open h
    have hk : Kept (fun _ => False) w W0 := hW0 ▸ ((Kept.refl _ w).alloc _).alloc _
    rw [hk.cell0 t1'] at t1
    rw [t1', t1]
  have hcl : c < w.heap.size := by obtain ⟨_, _, _, _, _, _, _, hc, _⟩ := cs_cells h; exact hc
  have RGT := Lib.hid (right_any x W0 hk hv)
  have HB := Lib.hid hB
  have HF := Lib.hid hf
  have HW0 := Lib.hid hW0
  have HRB := Lib.hid hrb
  have HXB := Lib.hid hxb
  clear h hB hf t1 hW0 hrb hxb
  go_enter Tryz.func8, Tryz.ntmps8
  go_wp2_with fail
  rw [← HRB.out, ← HXB.out, ← show W0 = (w.alloc (.cells #[.int .i64 x.op, .string x.key, .string x.val, .int .i64 x.num, .int .i64 x.ver] 39)).alloc (.cells #[.int .i64 0, .string { data := #[] }, .int .i64 0, .int .i64 0, .slice none 0 0] 51) from HW0.out]
  refine RGT.out.mono ?_
  rintro e w1 ⟨rfl, hk1⟩
  have hB := HB.out.kept0 hk1
  clear ht1 hcl HW0 HRB HXB RGT HB hk1
  have hrx := (hB.box (rb, zRp) (.head _)).1
  obtain ⟨m0, m1, m2, m3, m4, m5⟩ := cm_facts (hB.box (xb, cmO x) (.tail _ (.head _))).1
  obtain ⟨z0, z1, z2, z3, z4, y0, y1, y2, y3, y4, y5⟩ := z_facts hrx
  have RET := Lib.hid hB.rets
  have HB := Lib.hid hB
  clear hB hrx
  by_cases hr : rightC x
  · by_cases hn0 : now < 0
    · have HW : Hid (doC s x now = (Rp.err 1, s)) := Lib.hid (if_pos (.inr (.inl hn0)))
      rw [decide_eq_true hr]
      clear hr
      go_wp2_with fail
      (try simp only [Exit.inBlock, Exit.then])
      refine bodyPost_ret (results_cell_row rfl _ _ rb _ _ _ _ rfl (RET.out (Rp.err 1) (.slice none 0 0)).1 Tryz.underlying51 rfl rp_size) rfl ?_
      rw [HW.out]
      exact ⟨rfl, (RET.out (Rp.err 1) (.slice none 0 0)).2⟩
    · by_cases hn1 : 1000000000000 < now
      · have HW : Hid (doC s x now = (Rp.err 1, s)) := Lib.hid (if_pos (.inr (.inr hn1)))
        rw [decide_eq_true hr]
        clear hr
        go_wp2_with fail
        (try simp only [Exit.inBlock, Exit.then])
        refine bodyPost_ret (results_cell_row rfl _ _ rb _ _ _ _ rfl (RET.out (Rp.err 1) (.slice none 0 0)).1 Tryz.underlying51 rfl rp_size) rfl ?_
        rw [HW.out]
        exact ⟨rfl, (RET.out (Rp.err 1) (.slice none 0 0)).2⟩
      · have HD : Hid (doC s x now = didC { s with U := sweepC now s.U } x now) := Lib.hid (if_neg (fun h => h.elim (fun h => h hr) (fun h => h.elim hn0 hn1)))
        have SW := Lib.hid (HB.out.sweep HF.out now (by omega) (by omega))
        have HFS := Lib.hid (HF.out.swept now)
        rw [decide_eq_true hr]
        have HR := Lib.hid hr
        clear hr
        go_wp2_with fail
        refine SW.out.mono ?_
        rintro e w2 ⟨rfl, hB⟩
        generalize ({ s with U := sweepC now s.U } : CSt) = s1 at *
        clear m0 m1 m2 m3 m4 m5 z0 z1 z2 z3 z4 y0 y1 y2 y3 y4 y5 RET HB SW HF
        have hrx := (hB.box (rb, zRp) (.head _)).1
        obtain ⟨m0, m1, m2, m3, m4, m5⟩ := cm_facts (hB.box (xb, cmO x) (.tail _ (.head _))).1
        obtain ⟨z0, z1, z2, z3, z4, y0, y1, y2, y3, y4, y5⟩ := z_facts hrx
        obtain ⟨bt, t1, LEN⟩ := hB.len
        obtain ⟨_, _, _, k3, _, _, _, kc⟩ := hB.cells
        have HLEN := Lib.hid LEN
        have RET := Lib.hid hB.rets
        have HB := Lib.hid hB
        obtain ⟨op, key, val, num, ver⟩ := x
        obtain ⟨ho0, ho1, hky, hvl, hm0, hm1, _, _⟩ := HR.out
        simp only at m0 m1 m2 m3 m4 ho0 ho1 hky hvl hm0 hm1 h11 h12 hk hv
        have hkz : key.size ≤ 60 := by
          unfold keyOk at hky
          split at hky
          · exact hky
          · split at hky
            · omega
            · exact hky.2
        clear hB hrx LEN hky
        have hcase : (op = 2 ∨ op = 3 ∨ op = 4 ∨ op = 6) ∨ (op = 1 ∨ op = 5 ∨ op = 7 ∨ op = 8 ∨ op = 9 ∨ op = 10) ∨ op = 13 := by omega
        rcases hcase with (rfl | rfl | rfl | rfl) | (rfl | rfl | rfl | rfl | rfl | rfl) | rfl
        · have HW : Hid (doC s ⟨2, key, val, num, ver⟩ now = setC s1 ⟨2, key, val, num, ver⟩ now) := Lib.hid (HD.out.trans (if_pos (show ((2 : Int) = 2) ∨ ((2 : Int) = 3) ∨ ((2 : Int) = 4) ∨ ((2 : Int) = 6) from by decide)))
          have ST := Lib.hid (HB.out.setop HFS.out ⟨2, key, val, num, ver⟩ now hkz hvl hm0 hm1 (by omega) (by omega) (show ((2 : Int) = 2) ∨ ((2 : Int) = 3) ∨ ((2 : Int) = 4) ∨ ((2 : Int) = 6) from by decide))
          clear HD HR
          go_wp2_with fail
          refine ST.out.mono ?_
          rintro e w4 ⟨rfl, hB4⟩
          obtain ⟨z0, z1, z2, z3, z4, y0, y1, y2, y3, y4, y5⟩ := z_facts (hB4.box (rb, zRp) (.head _)).1
          have RET4 := Lib.hid (hB4.rets (setC s1 ⟨2, key, val, num, ver⟩ now).1 (.slice none 0 0))
          clear hB4
          go_wp2_with fail
          (try simp only [Exit.inBlock, Exit.then])
          refine bodyPost_ret (results_cell_row rfl _ _ rb _ _ _ _ rfl RET4.out.1 Tryz.underlying51 rfl rp_size) rfl ?_
          rw [HW.out]
          exact ⟨rfl, RET4.out.2⟩
        · have HW : Hid (doC s ⟨3, key, val, num, ver⟩ now = setC s1 ⟨3, key, val, num, ver⟩ now) := Lib.hid (HD.out.trans (if_pos (show ((3 : Int) = 2) ∨ ((3 : Int) = 3) ∨ ((3 : Int) = 4) ∨ ((3 : Int) = 6) from by decide)))
          have ST := Lib.hid (HB.out.setop HFS.out ⟨3, key, val, num, ver⟩ now hkz hvl hm0 hm1 (by omega) (by omega) (show ((3 : Int) = 2) ∨ ((3 : Int) = 3) ∨ ((3 : Int) = 4) ∨ ((3 : Int) = 6) from by decide))
          clear HD HR
          go_wp2_with fail
          refine ST.out.mono ?_
          rintro e w4 ⟨rfl, hB4⟩
          obtain ⟨z0, z1, z2, z3, z4, y0, y1, y2, y3, y4, y5⟩ := z_facts (hB4.box (rb, zRp) (.head _)).1
          have RET4 := Lib.hid (hB4.rets (setC s1 ⟨3, key, val, num, ver⟩ now).1 (.slice none 0 0))
          clear hB4
          go_wp2_with fail
          (try simp only [Exit.inBlock, Exit.then])
          refine bodyPost_ret (results_cell_row rfl _ _ rb _ _ _ _ rfl RET4.out.1 Tryz.underlying51 rfl rp_size) rfl ?_
          rw [HW.out]
          exact ⟨rfl, RET4.out.2⟩
        · have HW : Hid (doC s ⟨4, key, val, num, ver⟩ now = setC s1 ⟨4, key, val, num, ver⟩ now) := Lib.hid (HD.out.trans (if_pos (show ((4 : Int) = 2) ∨ ((4 : Int) = 3) ∨ ((4 : Int) = 4) ∨ ((4 : Int) = 6) from by decide)))
          have ST := Lib.hid (HB.out.setop HFS.out ⟨4, key, val, num, ver⟩ now hkz hvl hm0 hm1 (by omega) (by omega) (show ((4 : Int) = 2) ∨ ((4 : Int) = 3) ∨ ((4 : Int) = 4) ∨ ((4 : Int) = 6) from by decide))
          clear HD HR
          go_wp2_with fail
          refine ST.out.mono ?_
          rintro e w4 ⟨rfl, hB4⟩
          obtain ⟨z0, z1, z2, z3, z4, y0, y1, y2, y3, y4, y5⟩ := z_facts (hB4.box (rb, zRp) (.head _)).1
          have RET4 := Lib.hid (hB4.rets (setC s1 ⟨4, key, val, num, ver⟩ now).1 (.slice none 0 0))
          clear hB4
          go_wp2_with fail
          (try simp only [Exit.inBlock, Exit.then])
          refine bodyPost_ret (results_cell_row rfl _ _ rb _ _ _ _ rfl RET4.out.1 Tryz.underlying51 rfl rp_size) rfl ?_
          rw [HW.out]
          exact ⟨rfl, RET4.out.2⟩
        · have HW : Hid (doC s ⟨6, key, val, num, ver⟩ now = setC s1 ⟨6, key, val, num, ver⟩ now) := Lib.hid (HD.out.trans (if_pos (show ((6 : Int) = 2) ∨ ((6 : Int) = 3) ∨ ((6 : Int) = 4) ∨ ((6 : Int) = 6) from by decide)))
          have ST := Lib.hid (HB.out.setop HFS.out ⟨6, key, val, num, ver⟩ now hkz hvl hm0 hm1 (by omega) (by omega) (show ((6 : Int) = 2) ∨ ((6 : Int) = 3) ∨ ((6 : Int) = 4) ∨ ((6 : Int) = 6) from by decide))
          clear HD HR
          go_wp2_with fail
          refine ST.out.mono ?_
          rintro e w4 ⟨rfl, hB4⟩
          obtain ⟨z0, z1, z2, z3, z4, y0, y1, y2, y3, y4, y5⟩ := z_facts (hB4.box (rb, zRp) (.head _)).1
          have RET4 := Lib.hid (hB4.rets (setC s1 ⟨6, key, val, num, ver⟩ now).1 (.slice none 0 0))
          clear hB4
          go_wp2_with fail
          (try simp only [Exit.inBlock, Exit.then])
          refine bodyPost_ret (results_cell_row rfl _ _ rb _ _ _ _ rfl RET4.out.1 Tryz.underlying51 rfl rp_size) rfl ?_
          rw [HW.out]
          exact ⟨rfl, RET4.out.2⟩
        · have HW : Hid (doC s ⟨1, key, val, num, ver⟩ now = itemC s1 ⟨1, key, val, num, ver⟩ now) := Lib.hid (HD.out.trans (show didC s1 ⟨1, key, val, num, ver⟩ now = _ from (if_neg (show ¬ (((1 : Int) = 2) ∨ ((1 : Int) = 3) ∨ ((1 : Int) = 4) ∨ ((1 : Int) = 6)) from by decide)).trans ((if_neg (show ¬ ((1 : Int) = 11) from by decide)).trans ((if_neg (show ¬ ((1 : Int) = 12) from by decide)).trans (if_neg (show ¬ ((1 : Int) = 13) from by decide))))))
          have ST := Lib.hid (HB.out.itemop HFS.out ⟨1, key, val, num, ver⟩ now hkz hvl hm0 hm1 (by omega) (by omega) (show ((1 : Int) = 1) ∨ ((1 : Int) = 5) ∨ ((1 : Int) = 7) ∨ ((1 : Int) = 8) ∨ ((1 : Int) = 9) ∨ ((1 : Int) = 10) from by decide))
          clear HD HR
          go_wp2_with fail
          refine ST.out.mono ?_
          rintro e w4 ⟨rfl, hB4⟩
          obtain ⟨z0, z1, z2, z3, z4, y0, y1, y2, y3, y4, y5⟩ := z_facts (hB4.box (rb, zRp) (.head _)).1
          have RET4 := Lib.hid (hB4.rets (itemC s1 ⟨1, key, val, num, ver⟩ now).1 (.slice none 0 0))
          clear hB4
          go_wp2_with fail
          (try simp only [Exit.inBlock, Exit.then])
          refine bodyPost_ret (results_cell_row rfl _ _ rb _ _ _ _ rfl RET4.out.1 Tryz.underlying51 rfl rp_size) rfl ?_
          rw [HW.out]
          exact ⟨rfl, RET4.out.2⟩
        · have HW : Hid (doC s ⟨5, key, val, num, ver⟩ now = itemC s1 ⟨5, key, val, num, ver⟩ now) := Lib.hid (HD.out.trans (show didC s1 ⟨5, key, val, num, ver⟩ now = _ from (if_neg (show ¬ (((5 : Int) = 2) ∨ ((5 : Int) = 3) ∨ ((5 : Int) = 4) ∨ ((5 : Int) = 6)) from by decide)).trans ((if_neg (show ¬ ((5 : Int) = 11) from by decide)).trans ((if_neg (show ¬ ((5 : Int) = 12) from by decide)).trans (if_neg (show ¬ ((5 : Int) = 13) from by decide))))))
          have ST := Lib.hid (HB.out.itemop HFS.out ⟨5, key, val, num, ver⟩ now hkz hvl hm0 hm1 (by omega) (by omega) (show ((5 : Int) = 1) ∨ ((5 : Int) = 5) ∨ ((5 : Int) = 7) ∨ ((5 : Int) = 8) ∨ ((5 : Int) = 9) ∨ ((5 : Int) = 10) from by decide))
          clear HD HR
          go_wp2_with fail
          refine ST.out.mono ?_
          rintro e w4 ⟨rfl, hB4⟩
          obtain ⟨z0, z1, z2, z3, z4, y0, y1, y2, y3, y4, y5⟩ := z_facts (hB4.box (rb, zRp) (.head _)).1
          have RET4 := Lib.hid (hB4.rets (itemC s1 ⟨5, key, val, num, ver⟩ now).1 (.slice none 0 0))
          clear hB4
          go_wp2_with fail
          (try simp only [Exit.inBlock, Exit.then])
          refine bodyPost_ret (results_cell_row rfl _ _ rb _ _ _ _ rfl RET4.out.1 Tryz.underlying51 rfl rp_size) rfl ?_
          rw [HW.out]
          exact ⟨rfl, RET4.out.2⟩
        · have HW : Hid (doC s ⟨7, key, val, num, ver⟩ now = itemC s1 ⟨7, key, val, num, ver⟩ now) := Lib.hid (HD.out.trans (show didC s1 ⟨7, key, val, num, ver⟩ now = _ from (if_neg (show ¬ (((7 : Int) = 2) ∨ ((7 : Int) = 3) ∨ ((7 : Int) = 4) ∨ ((7 : Int) = 6)) from by decide)).trans ((if_neg (show ¬ ((7 : Int) = 11) from by decide)).trans ((if_neg (show ¬ ((7 : Int) = 12) from by decide)).trans (if_neg (show ¬ ((7 : Int) = 13) from by decide))))))
          have ST := Lib.hid (HB.out.itemop HFS.out ⟨7, key, val, num, ver⟩ now hkz hvl hm0 hm1 (by omega) (by omega) (show ((7 : Int) = 1) ∨ ((7 : Int) = 5) ∨ ((7 : Int) = 7) ∨ ((7 : Int) = 8) ∨ ((7 : Int) = 9) ∨ ((7 : Int) = 10) from by decide))
          clear HD HR
          go_wp2_with fail
          refine ST.out.mono ?_
          rintro e w4 ⟨rfl, hB4⟩
          obtain ⟨z0, z1, z2, z3, z4, y0, y1, y2, y3, y4, y5⟩ := z_facts (hB4.box (rb, zRp) (.head _)).1
          have RET4 := Lib.hid (hB4.rets (itemC s1 ⟨7, key, val, num, ver⟩ now).1 (.slice none 0 0))
          clear hB4
          go_wp2_with fail
          (try simp only [Exit.inBlock, Exit.then])
          refine bodyPost_ret (results_cell_row rfl _ _ rb _ _ _ _ rfl RET4.out.1 Tryz.underlying51 rfl rp_size) rfl ?_
          rw [HW.out]
          exact ⟨rfl, RET4.out.2⟩
        · have HW : Hid (doC s ⟨8, key, val, num, ver⟩ now = itemC s1 ⟨8, key, val, num, ver⟩ now) := Lib.hid (HD.out.trans (show didC s1 ⟨8, key, val, num, ver⟩ now = _ from (if_neg (show ¬ (((8 : Int) = 2) ∨ ((8 : Int) = 3) ∨ ((8 : Int) = 4) ∨ ((8 : Int) = 6)) from by decide)).trans ((if_neg (show ¬ ((8 : Int) = 11) from by decide)).trans ((if_neg (show ¬ ((8 : Int) = 12) from by decide)).trans (if_neg (show ¬ ((8 : Int) = 13) from by decide))))))
          have ST := Lib.hid (HB.out.itemop HFS.out ⟨8, key, val, num, ver⟩ now hkz hvl hm0 hm1 (by omega) (by omega) (show ((8 : Int) = 1) ∨ ((8 : Int) = 5) ∨ ((8 : Int) = 7) ∨ ((8 : Int) = 8) ∨ ((8 : Int) = 9) ∨ ((8 : Int) = 10) from by decide))
          clear HD HR
          go_wp2_with fail
          refine ST.out.mono ?_
          rintro e w4 ⟨rfl, hB4⟩
          obtain ⟨z0, z1, z2, z3, z4, y0, y1, y2, y3, y4, y5⟩ := z_facts (hB4.box (rb, zRp) (.head _)).1
          have RET4 := Lib.hid (hB4.rets (itemC s1 ⟨8, key, val, num, ver⟩ now).1 (.slice none 0 0))
          clear hB4
          go_wp2_with fail
          (try simp only [Exit.inBlock, Exit.then])
          refine bodyPost_ret (results_cell_row rfl _ _ rb _ _ _ _ rfl RET4.out.1 Tryz.underlying51 rfl rp_size) rfl ?_
          rw [HW.out]
          exact ⟨rfl, RET4.out.2⟩
        · have HW : Hid (doC s ⟨9, key, val, num, ver⟩ now = itemC s1 ⟨9, key, val, num, ver⟩ now) := Lib.hid (HD.out.trans (show didC s1 ⟨9, key, val, num, ver⟩ now = _ from (if_neg (show ¬ (((9 : Int) = 2) ∨ ((9 : Int) = 3) ∨ ((9 : Int) = 4) ∨ ((9 : Int) = 6)) from by decide)).trans ((if_neg (show ¬ ((9 : Int) = 11) from by decide)).trans ((if_neg (show ¬ ((9 : Int) = 12) from by decide)).trans (if_neg (show ¬ ((9 : Int) = 13) from by decide))))))
          have ST := Lib.hid (HB.out.itemop HFS.out ⟨9, key, val, num, ver⟩ now hkz hvl hm0 hm1 (by omega) (by omega) (show ((9 : Int) = 1) ∨ ((9 : Int) = 5) ∨ ((9 : Int) = 7) ∨ ((9 : Int) = 8) ∨ ((9 : Int) = 9) ∨ ((9 : Int) = 10) from by decide))
          clear HD HR
          go_wp2_with fail
          refine ST.out.mono ?_
          rintro e w4 ⟨rfl, hB4⟩
          obtain ⟨z0, z1, z2, z3, z4, y0, y1, y2, y3, y4, y5⟩ := z_facts (hB4.box (rb, zRp) (.head _)).1
          have RET4 := Lib.hid (hB4.rets (itemC s1 ⟨9, key, val, num, ver⟩ now).1 (.slice none 0 0))
          clear hB4
          go_wp2_with fail
          (try simp only [Exit.inBlock, Exit.then])
          refine bodyPost_ret (results_cell_row rfl _ _ rb _ _ _ _ rfl RET4.out.1 Tryz.underlying51 rfl rp_size) rfl ?_
          rw [HW.out]
          exact ⟨rfl, RET4.out.2⟩
        · have HW : Hid (doC s ⟨10, key, val, num, ver⟩ now = itemC s1 ⟨10, key, val, num, ver⟩ now) := Lib.hid (HD.out.trans (show didC s1 ⟨10, key, val, num, ver⟩ now = _ from (if_neg (show ¬ (((10 : Int) = 2) ∨ ((10 : Int) = 3) ∨ ((10 : Int) = 4) ∨ ((10 : Int) = 6)) from by decide)).trans ((if_neg (show ¬ ((10 : Int) = 11) from by decide)).trans ((if_neg (show ¬ ((10 : Int) = 12) from by decide)).trans (if_neg (show ¬ ((10 : Int) = 13) from by decide))))))
          have ST := Lib.hid (HB.out.itemop HFS.out ⟨10, key, val, num, ver⟩ now hkz hvl hm0 hm1 (by omega) (by omega) (show ((10 : Int) = 1) ∨ ((10 : Int) = 5) ∨ ((10 : Int) = 7) ∨ ((10 : Int) = 8) ∨ ((10 : Int) = 9) ∨ ((10 : Int) = 10) from by decide))
          clear HD HR
          go_wp2_with fail
          refine ST.out.mono ?_
          rintro e w4 ⟨rfl, hB4⟩
          obtain ⟨z0, z1, z2, z3, z4, y0, y1, y2, y3, y4, y5⟩ := z_facts (hB4.box (rb, zRp) (.head _)).1
          have RET4 := Lib.hid (hB4.rets (itemC s1 ⟨10, key, val, num, ver⟩ now).1 (.slice none 0 0))
          clear hB4
          go_wp2_with fail
          (try simp only [Exit.inBlock, Exit.then])
          refine bodyPost_ret (results_cell_row rfl _ _ rb _ _ _ _ rfl RET4.out.1 Tryz.underlying51 rfl rp_size) rfl ?_
          rw [HW.out]
          exact ⟨rfl, RET4.out.2⟩
        · have HW : Hid (doC s ⟨13, key, val, num, ver⟩ now = (⟨0, ⟨#[]⟩, s1.U.length, usedL s1.U, []⟩, s1)) := Lib.hid HD.out
          clear HD HR
          go_wp2_with fail
          refine wp_region_still_tail 10 (by kernel_rfl) (by kernel_rfl) ?_
          simp only [List.take_succ_cons, List.take_zero, List.drop_succ_cons, List.drop_zero]
          repeat still_step
          still_call (HLEN.out _ ((Kept.refl _ _).drew))
          repeat still_step
          refine wpStill_nil ?_
          change wpList _ _ _ _ _ w2.drew
          have RETD := Lib.hid (HB.out.kept0 ((Kept.refl _ w2).drew)).rets
          go_wp2_with fail
          (try simp only [Exit.inBlock, Exit.then])
          refine bodyPost_ret (results_cell_row rfl _ _ rb _ _ _ _ rfl (RETD.out ⟨0, ⟨#[]⟩, s1.U.length, usedL s1.U, []⟩ (.slice none 0 0)).1 Tryz.underlying51 rfl rp_size) rfl ?_
          rw [HW.out]
          exact ⟨rfl, (RETD.out ⟨0, ⟨#[]⟩, s1.U.length, usedL s1.U, []⟩ (.slice none 0 0)).2⟩
  · have HW : Hid (doC s x now = (Rp.err 1, s)) := Lib.hid (if_pos (.inl hr))
    rw [decide_eq_false hr]
    clear hr
    go_wp2_with fail
    (try simp only [Exit.inBlock, Exit.then])
    refine bodyPost_ret (results_cell_row rfl _ _ rb _ _ _ _ rfl (RET.out (Rp.err 1) (.slice none 0 0)).1 Tryz.underlying51 rfl rp_size) rfl ?_
    rw [HW.out]
    exact ⟨rfl, (RET.out (Rp.err 1) (.slice none 0 0)).2⟩
end Go.Proofs.YtekcjoogggoijaaGreatDoor
