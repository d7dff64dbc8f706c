/-
  The reference's cache: Do, the operations 2, 3, 4, 6. (Printed by wip/tools/g_refdo.py.)
-/
import Derived.Test.YtekcjoogggoijaaGreatDoorCp25
import Derived.Test.YtekcjoogggoijaaGreatDoorCp26
import Derived.Deep.Cut
import Derived.Deep.CutBlock
set_option linter.unusedVariables false
set_option linter.unusedSimpArgs false
set_option linter.unnecessarySimpa false
namespace Go.Proofs.YtekcjoogggoijaaGreatDoor
open Go.RowKit
set_option maxRecDepth 100000

set_option maxHeartbeats 16000000 in
theorem refDo_sets {rc : Nat} {v : Value} (s : CSt) (op : Int) (key val : ByteArray) (num ver now : Int) (w : World) (h : RC w rc v s) (hf : FitC s) (hnd : (keys s.U).Nodup) (hr : rightC ⟨op, key, val, num, ver⟩) (n0 : 0 ≤ now) (n1 : now ≤ 1000000000000) (hop : op = 2 ∨ op = 3 ∨ op = 4 ∨ op = 6) :
    Calls Tryz.prog 9 #[.pointer (some ⟨rc, 0, none⟩), .agg #[.int .i64 op, .string key, .string val, .int .i64 num, .int .i64 ver], .int .i64 now] w (RDo w rc v (doC s ⟨op, key, val, num, ver⟩ now)) := by
  obtain ⟨ho0, ho1, hky, hvl, hm0, hm1, hv0, hv1⟩ := hr
  simp only at ho0 ho1 hky hvl hm0 hm1 hv0 hv1
  have hkz : key.size ≤ 60 := by
    unfold keyOk at hky
    split at hky
    · exact hky
    · split at hky
      · omega
      · exact hky.2
  have hB := two_boxesR h (cmO ⟨op, key, val, num, ver⟩) zRp
  obtain ⟨rb, hrb⟩ : ∃ rb, rb = w.heap.size + 1 := ⟨_, rfl⟩
  obtain ⟨xb, hxb⟩ : ∃ xb, xb = w.heap.size := ⟨_, rfl⟩
  obtain ⟨W0, hW0⟩ : ∃ W0, W0 = (w.alloc (cmO ⟨op, key, val, num, ver⟩)).alloc zRp := ⟨_, rfl⟩
  rw [← hrb, ← hxb, ← hW0] at hB
  have RGT := Lib.hid (show Calls Tryz.prog 31 #[.agg #[.int .i64 op, .string key, .string val, .int .i64 num, .int .i64 ver]] W0 fun e w' => e = .returned (.bool true) ∧ Kept (fun _ => False) W0 w' by
    have := refCommand_any ⟨op, key, val, num, ver⟩ W0 (by simp only; omega) (by simp only; omega)
    rwa [decide_eq_true (show rightC ⟨op, key, val, num, ver⟩ from ⟨ho0, ho1, hky, hvl, hm0, hm1, hv0, hv1⟩)] at this)
  have HB := Lib.hid hB
  have HD : Hid (doC s ⟨op, key, val, num, ver⟩ now = didC ⟨s.bud, sweepC now s.U, s.ver, s.gone⟩ ⟨op, key, val, num, ver⟩ now) := Lib.hid (if_neg (fun h => h.elim (fun h => h ⟨ho0, ho1, hky, hvl, hm0, hm1, hv0, hv1⟩) (fun h => h.elim (fun h => by omega) (fun h => by omega))))
  have HFS : Hid (FitC ⟨s.bud, sweepC now s.U, s.ver, s.gone⟩) := Lib.hid (hf.swept now)
  have HNS := Lib.hid (sweep_nodup now hnd)
  have HU := Lib.hid (show s.U.length ≤ 62500 by have := usedL_ge s.U; have := hf.used; omega)
  have HW0 := Lib.hid hW0
  have HRB := Lib.hid hrb
  have HXB := Lib.hid hxb
  have hn0 : ¬ now < 0 := by omega
  have hn1 : ¬ 1000000000000 < now := by omega
  clear h hB hW0 hrb hxb hf hnd hky
  go_enter Tryz.func9, Tryz.ntmps9
  go_wp2_with fail
  rw [← HRB.out, ← HXB.out, ← show W0 = (w.alloc (.cells #[.int .i64 op, .string key, .string val, .int .i64 num, .int .i64 ver] 39)).alloc (.cells #[.int .i64 0, .string { data := #[] }, .int .i64 0, .int .i64 0, .slice none 0 0] 51) from HW0.out]
  refine RGT.out.mono ?_
  rintro e w1 ⟨rfl, hk1⟩
  have HB1 := Lib.hid (HB.out.kept0 hk1)
  clear HW0 HRB HXB RGT HB hk1
  go_upto_block 0 with fail
  go_cut [] (fun wr => RB w rc v ⟨s.bud, sweepC now s.U, s.ver, s.gone⟩ [(rb, zRp), (xb, cmO ⟨op, key, val, num, ver⟩)] wr)
  case first =>
    go_wp2_with fail
    go_loopg [7] s.U.length (fun gk k wr => ∃ A R, s.U = A ++ R ∧ R.length = gk ∧ k = .int .i64 ((sweepC now A).length : Int) ∧ RB w rc v ⟨s.bud, sweepC now A ++ R, s.ver, s.gone⟩ [(rb, zRp), (xb, cmO ⟨op, key, val, num, ver⟩)] wr)
    case atStart => exact ⟨[], s.U, rfl, rfl, rfl, HB1.out⟩
    case round =>
      obtain ⟨A, R, hAR, hR, rfl, hB⟩ := hrel
      obtain ⟨vv, _, k1, _, _, hsl, _⟩ := hB.cells
      simp only at k1 hsl
      have HRD := Lib.hid (Rd.of_sl hsl)
      obtain ⟨ao, ca, rfl, hca⟩ := (Rd.of_sl hsl).shape
      have HBW := Lib.hid hB
      have HAR := Lib.hid hAR
      have HR := Lib.hid hR
      clear hB hsl HB1
      cases R with
      | nil =>
        have hm : (sweepC now A ++ []).length = (sweepC now A).length := by rw [List.append_nil]
        rw [hm] at k1 hca
        clear hm hAR hR
        generalize hi : (sweepC now A).length = i at *
        clear hi
        go_wp2_with fail
        go_meet
        case rel =>
          have := HBW.out
          rw [List.append_nil] at this
          rw [HAR.out, List.append_nil]
          exact this
      | cons y R =>
        have hil : (sweepC now A).length < (sweepC now A ++ y :: R).length := by simp
        obtain ⟨g, off, rfl, _, _, _, x3⟩ := rd_it HRD.out rfl (sweepC now A).length hil
        have hy : (sweepC now A ++ y :: R)[(sweepC now A).length]'hil = y := by simp
        rw [hy] at x3
        have hub : (sweepC now A).length ≤ 62500 := by
          have h1 : (sweepC now A).length ≤ A.length := List.length_filter_le _ _
          have h2 := HU.out
          rw [HAR.out, List.length_append] at h2
          omega
        have CUT := Lib.hid (HBW.out.calls (f := 32) fun v' h => refC_cut h (by have h1 : (sweepC now A).length ≤ A.length := List.length_filter_le _ _; have h2 := HU.out; rw [HAR.out, List.length_append] at h2; simp only [List.length_append, List.length_cons] at h2 ⊢; omega) (sweepC now A).length hil)
        simp only [eraseMid] at CUT
        have SN := Lib.hid (sweep_snoc now A y)
        have OB : overB now y = (decide (0 < y.til) && decide (y.til < now)) := rfl
        have HOB := Lib.hid OB
        clear hy hAR hR OB
        obtain ⟨i, hi⟩ : ∃ i, i = (sweepC now A).length := ⟨_, rfl⟩
        obtain ⟨m, hm⟩ : ∃ m, m = (sweepC now A ++ y :: R).length := ⟨_, rfl⟩
        rw [← hm] at k1 hca
        rw [← hi, ← hm] at hil
        rw [← hi] at x3 CUT hub ⊢
        have HI := Lib.hid hi
        clear hi hm
        have hil2 : (i : Int) < (m : Int) := by omega
        by_cases t0 : 0 < y.til
        · by_cases t1 : y.til < now
          · go_wp2_with fail
            refine CUT.out.mono ?_
            rintro e w2 ⟨rfl, hB⟩
            have HB2 := Lib.hid hB
            clear hB
            have NX := Lib.hid (show sweepC now (A ++ [y]) = sweepC now A by rw [SN.out, HOB.out, decide_eq_true t0, decide_eq_true t1]; rfl)
            go_wp2_with fail
            go_roundg R.length
            case measure => have := HR.out; simp only [List.length_cons] at this; omega
            case rel => exact ⟨A ++ [y], R, by rw [HAR.out]; simp, rfl, by rw [NX.out, HI.out], by rw [NX.out]; exact HB2.out⟩
          · have NX := Lib.hid (show sweepC now (A ++ [y]) = sweepC now A ++ [y] by rw [SN.out, HOB.out, decide_eq_true t0, decide_eq_false t1]; rfl)
            go_wp2_with fail
            go_roundg R.length
            case measure => have := HR.out; simp only [List.length_cons] at this; omega
            case rel => exact ⟨A ++ [y], R, by rw [HAR.out]; simp, rfl, by rw [NX.out, List.length_append, ← HI.out]; go_num, by rw [NX.out]; have := HBW.out; simpa using this⟩
        · have NX := Lib.hid (show sweepC now (A ++ [y]) = sweepC now A ++ [y] by rw [SN.out, HOB.out, decide_eq_false t0]; rfl)
          go_wp2_with fail
          go_roundg R.length
          case measure => have := HR.out; simp only [List.length_cons] at this; omega
          case rel => exact ⟨A ++ [y], R, by rw [HAR.out]; simp, rfl, by rw [NX.out, List.length_append, ← HI.out]; go_num, by rw [NX.out]; have := HBW.out; simpa using this⟩
  case rest =>
    clear HB1 HU
    have hB := hcut
    clear hcut
    obtain ⟨s1, hs1⟩ : ∃ s1 : CSt, s1 = ⟨s.bud, sweepC now s.U, s.ver, s.gone⟩ := ⟨_, rfl⟩
    have HNS1 := Lib.hid (show (keys s1.U).Nodup by rw [hs1]; exact HNS.out)
    rw [← hs1] at hB HD HFS
    clear hs1 HNS
    have HLEN := Lib.hid (show s1.U.length ≤ 62500 by have := usedL_ge s1.U; have := HFS.out.used; omega)
    obtain ⟨m0, m1, m2, m3, m4, m5⟩ := cm_facts (hB.box (xb, cmO ⟨op, key, val, num, ver⟩) (.tail _ (.head _))).1
    simp only at m0 m1 m2 m3 m4
    have HBC := Lib.hid hB
    have HB3 := Lib.hid (hB.alloc zBox)
    obtain ⟨ib, hib⟩ : ∃ ib, ib = wc.heap.size := ⟨_, rfl⟩
    rw [← hib] at HB3
    have HIB := Lib.hid hib
    clear hB hib
    obtain ⟨vv, _, k1, _, _, hsl, kc⟩ := HBC.out.cells
    obtain ⟨ao, ca, rfl, hca⟩ := (Rd.of_sl hsl).shape
    have k1a := ((Kept.refl (fun _ => False) wc).alloc zBox).cell0 k1
    have HSL := Lib.hid (Rd.of_sl hsl)
    unfold zBox at k1a
    clear hsl
    rcases hl : look s1.U key with _ | it
    case none =>
      have AT : Hid (Calls Tryz.prog 7 #[.pointer (some ⟨rc, 0, none⟩), .string key] wc fun e w' => e = .returned (.int .i64 (-1)) ∧ wc = w') := Lib.hid (by obtain ⟨v', h1, _⟩ := HBC.out.cs; exact refC_at_none h1 (by have := HLEN.out; omega) (look_not hl))
      have HL := Lib.hid hl
      clear hl
      go_wp2_with fail
      refine AT.out.mono ?_
      rintro e w3 ⟨rfl, rfl⟩
      go_upto_region 12 with fail
      obtain ⟨W5, hW5⟩ : ∃ W5, W5 = wc.alloc zBox := ⟨_, rfl⟩
      rw [← hW5] at HB3
      rw [← HIB.out, ← show W5 = wc.alloc (.cells #[.string { data := #[] }, .string { data := #[] }, .int .i64 0, .int .i64 0] 44) from hW5]
      have HB5 : Hid (RB w rc v s1 [(ib, itBox It.none), (rb, zRp), (xb, cmO ⟨op, key, val, num, ver⟩)] W5) := Lib.hid HB3.out
      obtain ⟨it, hit⟩ : ∃ it, it = It.none := ⟨_, rfl⟩
      rw [← hit] at HB5
      have HIT := Lib.hid hit
      clear hit hW5 AT
      obtain ⟨m0, m1, m2, m3, m4, m5⟩ := cm_facts (HB5.out.box (xb, cmO ⟨op, key, val, num, ver⟩) (.tail _ (.tail _ (.head _)))).1
      obtain ⟨z0, z1, z2, z3, z4, y0, y1, y2, y3, y4, y5⟩ := z_facts (HB5.out.box (rb, zRp) (.tail _ (.head _))).1
      obtain ⟨v0, v1, v2, v3, q0, q1, q2, q3, q4⟩ := it_facts (HB5.out.box (ib, itBox it) (.head _)).1
      simp only at m0 m1 m2 m3 m4
      have RET := Lib.hid HB5.out.rets2
      have HAS := Lib.hid (show hasB s1.U key = false by rw [← look_has, HL.out]; rfl)
      have GD := Lib.hid (show (look s1.U key).getD It.none = it by rw [HL.out]; exact HIT.out.symm)
      have HDS : Hid (doC s ⟨op, key, val, num, ver⟩ now = setC s1 ⟨op, key, val, num, ver⟩ now) := Lib.hid (HD.out.trans (if_pos (by simp only; omega)))
      have WR := Lib.hid ((HB5.out.kept0 ((Kept.refl _ W5).drew)).calls (f := 33) fun v' h => refC_writeX s1 ⟨key, val, 0, untilC num now⟩ _ h HFS.out HNS1.out (by simp only; omega) (by simp only; omega))
      have UNT := Lib.hid (fun W => refUntil_any num now W hm0 hm1 n0 n1)
      simp only at WR
      clear HBC HB3 HIB k1 k1a HSL HD
      rcases hop with rfl | rfl | rfl | rfl
      · by_cases hneg : num < 0
        · have HS := Lib.hid (show setC s1 ⟨2, key, val, num, ver⟩ now = (Rp.err 1, s1) from by simp [setC, HAS.out, GD.out, hneg])
          clear HAS GD HL
          go_wp2_with fail
          (try simp only [Exit.inBlock, Exit.then])
          refine bodyPost_ret (results_cell_row rfl _ _ rb _ _ _ _ rfl (RET.out (Rp.err 1) (.slice none 0 0)).1 Tryz.underlying51 rfl rp_size) rfl ?_
          rw [HDS.out, HS.out]
          exact RDo.plain (RET.out (Rp.err 1) (.slice none 0 0)).2 rfl
        · have HS := Lib.hid (show setC s1 ⟨2, key, val, num, ver⟩ now = writeC s1 ⟨key, val, 0, untilC num now⟩ from by simp [setC, HAS.out, GD.out, hneg])
          clear HAS GD HL
          have hne1 : rb ≠ xb := fun e => by have := HB5.out.nd; simp [e] at this
          have hne2 : xb ≠ rb := fun e => hne1 e.symm
          go_wp2_with fail
          go_region_held3 (fun w' => w'.cell? ⟨xb, 1, none⟩ = some (.string key) ∧ w'.cell? ⟨xb, 2, none⟩ = some (.string val) ∧ w'.cell? ⟨xb, 3, none⟩ = some (.int .i64 num)) (go_keep)
            (first
              | (go_at_call 34; refine (UNT.out _).mono ?_; rintro e w6 ⟨rfl, rfl⟩)
              | (go_at_call 33; refine WR.out.mono ?_; rintro e w7 ⟨rfl, hB⟩; have HB7 := Lib.hid hB; obtain ⟨n0', n1', n2', n3', n4', n5'⟩ := cm_facts (hB.box (xb, cmO ⟨2, key, val, num, ver⟩) (.tail _ (.tail _ (.head _)))).1; obtain ⟨u0, u1, u2, u3, u4, w0', w1', w2', w3', w4', w5'⟩ := z_facts (hB.box (rb, zRp) (.tail _ (.head _))).1; simp only at n0' n1' n2' n3' n4'; clear hB))
          all_goals
            have RET7 := Lib.hid (HB7.out.rets2 (writeC s1 ⟨key, val, 0, untilC num now⟩).1 (.slice none 0 0))
            go_wp2_with fail
            (try simp only [Exit.inBlock, Exit.then])
            refine bodyPost_ret (results_cell_row rfl _ _ rb _ _ _ _ rfl RET7.out.1 Tryz.underlying51 rfl rp_size) rfl ?_
            rw [HDS.out, HS.out]
            exact RDo.plain RET7.out.2 (writeC_keys _ _)
      · by_cases hneg : num < 0
        · have HS := Lib.hid (show setC s1 ⟨3, key, val, num, ver⟩ now = (Rp.err 1, s1) from by simp [setC, HAS.out, GD.out, hneg])
          clear HAS GD HL
          go_wp2_with fail
          (try simp only [Exit.inBlock, Exit.then])
          refine bodyPost_ret (results_cell_row rfl _ _ rb _ _ _ _ rfl (RET.out (Rp.err 1) (.slice none 0 0)).1 Tryz.underlying51 rfl rp_size) rfl ?_
          rw [HDS.out, HS.out]
          exact RDo.plain (RET.out (Rp.err 1) (.slice none 0 0)).2 rfl
        · have HS := Lib.hid (show setC s1 ⟨3, key, val, num, ver⟩ now = writeC s1 ⟨key, val, 0, untilC num now⟩ from by simp [setC, HAS.out, GD.out, hneg])
          clear HAS GD HL
          have hne1 : rb ≠ xb := fun e => by have := HB5.out.nd; simp [e] at this
          have hne2 : xb ≠ rb := fun e => hne1 e.symm
          go_wp2_with fail
          go_region_held3 (fun w' => w'.cell? ⟨xb, 1, none⟩ = some (.string key) ∧ w'.cell? ⟨xb, 2, none⟩ = some (.string val) ∧ w'.cell? ⟨xb, 3, none⟩ = some (.int .i64 num)) (go_keep)
            (first
              | (go_at_call 34; refine (UNT.out _).mono ?_; rintro e w6 ⟨rfl, rfl⟩)
              | (go_at_call 33; refine WR.out.mono ?_; rintro e w7 ⟨rfl, hB⟩; have HB7 := Lib.hid hB; obtain ⟨n0', n1', n2', n3', n4', n5'⟩ := cm_facts (hB.box (xb, cmO ⟨3, key, val, num, ver⟩) (.tail _ (.tail _ (.head _)))).1; obtain ⟨u0, u1, u2, u3, u4, w0', w1', w2', w3', w4', w5'⟩ := z_facts (hB.box (rb, zRp) (.tail _ (.head _))).1; simp only at n0' n1' n2' n3' n4'; clear hB))
          all_goals
            have RET7 := Lib.hid (HB7.out.rets2 (writeC s1 ⟨key, val, 0, untilC num now⟩).1 (.slice none 0 0))
            go_wp2_with fail
            (try simp only [Exit.inBlock, Exit.then])
            refine bodyPost_ret (results_cell_row rfl _ _ rb _ _ _ _ rfl RET7.out.1 Tryz.underlying51 rfl rp_size) rfl ?_
            rw [HDS.out, HS.out]
            exact RDo.plain RET7.out.2 (writeC_keys _ _)
      · by_cases hneg : num < 0
        · have HS := Lib.hid (show setC s1 ⟨4, key, val, num, ver⟩ now = (Rp.err 1, s1) from by simp [setC, HAS.out, GD.out, hneg])
          clear HAS GD HL
          go_wp2_with fail
          (try simp only [Exit.inBlock, Exit.then])
          refine bodyPost_ret (results_cell_row rfl _ _ rb _ _ _ _ rfl (RET.out (Rp.err 1) (.slice none 0 0)).1 Tryz.underlying51 rfl rp_size) rfl ?_
          rw [HDS.out, HS.out]
          exact RDo.plain (RET.out (Rp.err 1) (.slice none 0 0)).2 rfl
        · have HS := Lib.hid (show setC s1 ⟨4, key, val, num, ver⟩ now = (Rp.err 9, s1) from by simp [setC, HAS.out, GD.out, hneg])
          clear HAS GD HL
          go_wp2_with fail
          (try simp only [Exit.inBlock, Exit.then])
          refine bodyPost_ret (results_cell_row rfl _ _ rb _ _ _ _ rfl (RET.out (Rp.err 9) (.slice none 0 0)).1 Tryz.underlying51 rfl rp_size) rfl ?_
          rw [HDS.out, HS.out]
          exact RDo.plain (RET.out (Rp.err 9) (.slice none 0 0)).2 rfl
      · by_cases hneg : num < 0
        · have HS := Lib.hid (show setC s1 ⟨6, key, val, num, ver⟩ now = (Rp.err 1, s1) from by simp [setC, HAS.out, GD.out, hneg])
          clear HAS GD HL
          go_wp2_with fail
          (try simp only [Exit.inBlock, Exit.then])
          refine bodyPost_ret (results_cell_row rfl _ _ rb _ _ _ _ rfl (RET.out (Rp.err 1) (.slice none 0 0)).1 Tryz.underlying51 rfl rp_size) rfl ?_
          rw [HDS.out, HS.out]
          exact RDo.plain (RET.out (Rp.err 1) (.slice none 0 0)).2 rfl
        · have HS := Lib.hid (show setC s1 ⟨6, key, val, num, ver⟩ now = (Rp.err 9, s1) from by simp [setC, HAS.out, GD.out, hneg])
          clear HAS GD HL
          go_wp2_with fail
          (try simp only [Exit.inBlock, Exit.then])
          refine bodyPost_ret (results_cell_row rfl _ _ rb _ _ _ _ rfl (RET.out (Rp.err 9) (.slice none 0 0)).1 Tryz.underlying51 rfl rp_size) rfl ?_
          rw [HDS.out, HS.out]
          exact RDo.plain (RET.out (Rp.err 9) (.slice none 0 0)).2 rfl
    case some =>
      obtain ⟨i, hi, he, hy, hno⟩ := look_at hl
      have AT : Hid (Calls Tryz.prog 7 #[.pointer (some ⟨rc, 0, none⟩), .string key] wc fun e w' => e = .returned (.int .i64 (i : Int)) ∧ wc = w') := Lib.hid (by obtain ⟨v', h1, _⟩ := HBC.out.cs; exact refC_at_some h1 (by have := HLEN.out; omega) hi (by rw [he]; exact hy) hno)
      have HL := Lib.hid hl
      have HE := Lib.hid (show s1.U[i]? = some it by rw [List.getElem?_eq_getElem hi, he])
      obtain ⟨gL, oL, rfl, x0, x1, x2, x3⟩ := rd_it HSL.out rfl i hi
      rw [he] at x0 x1 x2 x3
      have x0a := ((Kept.refl (fun _ => False) wc).alloc zBox).cell0 x0
      have x1a := ((Kept.refl (fun _ => False) wc).alloc zBox).cell0 x1
      have x2a := ((Kept.refl (fun _ => False) wc).alloc zBox).cell0 x2
      have x3a := ((Kept.refl (fun _ => False) wc).alloc zBox).cell0 x3
      unfold zBox at x0a x1a x2a x3a
      have HY := Lib.hid hy
      clear hl hno he hy x0 x1 x2 x3
      obtain ⟨nU, hnU⟩ : ∃ nU, nU = s1.U.length := ⟨_, rfl⟩
      rw [← hnU] at k1 k1a hca hi
      clear hnU
      go_wp2_with fail
      refine AT.out.mono ?_
      rintro e w3 ⟨rfl, rfl⟩
      go_upto_region 12 with fail
      obtain ⟨W5, hW5⟩ : ∃ W5, W5 = wc.alloc (itBox it) := ⟨_, rfl⟩
      have hB5 := HBC.out.alloc (itBox it)
      rw [← hW5, ← HIB.out] at hB5
      have HB5 := Lib.hid hB5
      rw [← HIB.out, ← show W5 = wc.alloc (.cells #[.string it.key, .string it.val, .int .i64 it.ver, .int .i64 it.til] 44) from hW5]
      clear hB5 hW5 AT x0a x1a x2a x3a
      obtain ⟨m0, m1, m2, m3, m4, m5⟩ := cm_facts (HB5.out.box (xb, cmO ⟨op, key, val, num, ver⟩) (.tail _ (.tail _ (.head _)))).1
      obtain ⟨z0, z1, z2, z3, z4, y0, y1, y2, y3, y4, y5⟩ := z_facts (HB5.out.box (rb, zRp) (.tail _ (.head _))).1
      obtain ⟨v0, v1, v2, v3, q0, q1, q2, q3, q4⟩ := it_facts (HB5.out.box (ib, itBox it) (.head _)).1
      simp only at m0 m1 m2 m3 m4
      have RET := Lib.hid HB5.out.rets2
      have HAS := Lib.hid (show hasB s1.U key = true by rw [← look_has, HL.out]; rfl)
      have GD := Lib.hid (show (look s1.U key).getD It.none = it by rw [HL.out]; rfl)
      have HDS : Hid (doC s ⟨op, key, val, num, ver⟩ now = setC s1 ⟨op, key, val, num, ver⟩ now) := Lib.hid (HD.out.trans (if_pos (by simp only; omega)))
      have WR := Lib.hid ((HB5.out.kept0 ((Kept.refl _ W5).drew)).calls (f := 33) fun v' h => refC_writeX s1 ⟨key, val, 0, untilC num now⟩ _ h HFS.out HNS1.out (by simp only; omega) (by simp only; omega))
      have UNT := Lib.hid (fun W => refUntil_any num now W hm0 hm1 n0 n1)
      simp only at WR
      clear HBC HB3 HIB k1 k1a HSL HD
      rcases hop with rfl | rfl | rfl | rfl
      · by_cases hneg : num < 0
        · have HS := Lib.hid (show setC s1 ⟨2, key, val, num, ver⟩ now = (Rp.err 1, s1) from by simp [setC, HAS.out, GD.out, hneg])
          clear HAS GD HL
          go_wp2_with fail
          (try simp only [Exit.inBlock, Exit.then])
          refine bodyPost_ret (results_cell_row rfl _ _ rb _ _ _ _ rfl (RET.out (Rp.err 1) (.slice none 0 0)).1 Tryz.underlying51 rfl rp_size) rfl ?_
          rw [HDS.out, HS.out]
          exact RDo.plain (RET.out (Rp.err 1) (.slice none 0 0)).2 rfl
        · have HS := Lib.hid (show setC s1 ⟨2, key, val, num, ver⟩ now = writeC s1 ⟨key, val, 0, untilC num now⟩ from by simp [setC, HAS.out, GD.out, hneg])
          clear HAS GD HL
          have hne1 : rb ≠ xb := fun e => by have := HB5.out.nd; simp [e] at this
          have hne2 : xb ≠ rb := fun e => hne1 e.symm
          go_wp2_with fail
          go_region_held3 (fun w' => w'.cell? ⟨xb, 1, none⟩ = some (.string key) ∧ w'.cell? ⟨xb, 2, none⟩ = some (.string val) ∧ w'.cell? ⟨xb, 3, none⟩ = some (.int .i64 num)) (go_keep)
            (first
              | (go_at_call 34; refine (UNT.out _).mono ?_; rintro e w6 ⟨rfl, rfl⟩)
              | (go_at_call 33; refine WR.out.mono ?_; rintro e w7 ⟨rfl, hB⟩; have HB7 := Lib.hid hB; obtain ⟨n0', n1', n2', n3', n4', n5'⟩ := cm_facts (hB.box (xb, cmO ⟨2, key, val, num, ver⟩) (.tail _ (.tail _ (.head _)))).1; obtain ⟨u0, u1, u2, u3, u4, w0', w1', w2', w3', w4', w5'⟩ := z_facts (hB.box (rb, zRp) (.tail _ (.head _))).1; simp only at n0' n1' n2' n3' n4'; clear hB))
          all_goals
            have RET7 := Lib.hid (HB7.out.rets2 (writeC s1 ⟨key, val, 0, untilC num now⟩).1 (.slice none 0 0))
            go_wp2_with fail
            (try simp only [Exit.inBlock, Exit.then])
            refine bodyPost_ret (results_cell_row rfl _ _ rb _ _ _ _ rfl RET7.out.1 Tryz.underlying51 rfl rp_size) rfl ?_
            rw [HDS.out, HS.out]
            exact RDo.plain RET7.out.2 (writeC_keys _ _)
      · by_cases hneg : num < 0
        · have HS := Lib.hid (show setC s1 ⟨3, key, val, num, ver⟩ now = (Rp.err 1, s1) from by simp [setC, HAS.out, GD.out, hneg])
          clear HAS GD HL
          go_wp2_with fail
          (try simp only [Exit.inBlock, Exit.then])
          refine bodyPost_ret (results_cell_row rfl _ _ rb _ _ _ _ rfl (RET.out (Rp.err 1) (.slice none 0 0)).1 Tryz.underlying51 rfl rp_size) rfl ?_
          rw [HDS.out, HS.out]
          exact RDo.plain (RET.out (Rp.err 1) (.slice none 0 0)).2 rfl
        · have HS := Lib.hid (show setC s1 ⟨3, key, val, num, ver⟩ now = (Rp.err 10, s1) from by simp [setC, HAS.out, GD.out, hneg])
          clear HAS GD HL
          go_wp2_with fail
          (try simp only [Exit.inBlock, Exit.then])
          refine bodyPost_ret (results_cell_row rfl _ _ rb _ _ _ _ rfl (RET.out (Rp.err 10) (.slice none 0 0)).1 Tryz.underlying51 rfl rp_size) rfl ?_
          rw [HDS.out, HS.out]
          exact RDo.plain (RET.out (Rp.err 10) (.slice none 0 0)).2 rfl
      · by_cases hneg : num < 0
        · have HS := Lib.hid (show setC s1 ⟨4, key, val, num, ver⟩ now = (Rp.err 1, s1) from by simp [setC, HAS.out, GD.out, hneg])
          clear HAS GD HL
          go_wp2_with fail
          (try simp only [Exit.inBlock, Exit.then])
          refine bodyPost_ret (results_cell_row rfl _ _ rb _ _ _ _ rfl (RET.out (Rp.err 1) (.slice none 0 0)).1 Tryz.underlying51 rfl rp_size) rfl ?_
          rw [HDS.out, HS.out]
          exact RDo.plain (RET.out (Rp.err 1) (.slice none 0 0)).2 rfl
        · have HS := Lib.hid (show setC s1 ⟨4, key, val, num, ver⟩ now = writeC s1 ⟨key, val, 0, untilC num now⟩ from by simp [setC, HAS.out, GD.out, hneg])
          clear HAS GD HL
          have hne1 : rb ≠ xb := fun e => by have := HB5.out.nd; simp [e] at this
          have hne2 : xb ≠ rb := fun e => hne1 e.symm
          go_wp2_with fail
          go_region_held3 (fun w' => w'.cell? ⟨xb, 1, none⟩ = some (.string key) ∧ w'.cell? ⟨xb, 2, none⟩ = some (.string val) ∧ w'.cell? ⟨xb, 3, none⟩ = some (.int .i64 num)) (go_keep)
            (first
              | (go_at_call 34; refine (UNT.out _).mono ?_; rintro e w6 ⟨rfl, rfl⟩)
              | (go_at_call 33; refine WR.out.mono ?_; rintro e w7 ⟨rfl, hB⟩; have HB7 := Lib.hid hB; obtain ⟨n0', n1', n2', n3', n4', n5'⟩ := cm_facts (hB.box (xb, cmO ⟨4, key, val, num, ver⟩) (.tail _ (.tail _ (.head _)))).1; obtain ⟨u0, u1, u2, u3, u4, w0', w1', w2', w3', w4', w5'⟩ := z_facts (hB.box (rb, zRp) (.tail _ (.head _))).1; simp only at n0' n1' n2' n3' n4'; clear hB))
          all_goals
            have RET7 := Lib.hid (HB7.out.rets2 (writeC s1 ⟨key, val, 0, untilC num now⟩).1 (.slice none 0 0))
            go_wp2_with fail
            (try simp only [Exit.inBlock, Exit.then])
            refine bodyPost_ret (results_cell_row rfl _ _ rb _ _ _ _ rfl RET7.out.1 Tryz.underlying51 rfl rp_size) rfl ?_
            rw [HDS.out, HS.out]
            exact RDo.plain RET7.out.2 (writeC_keys _ _)
      · by_cases hneg : num < 0
        · have HS := Lib.hid (show setC s1 ⟨6, key, val, num, ver⟩ now = (Rp.err 1, s1) from by simp [setC, HAS.out, GD.out, hneg])
          clear HAS GD HL
          go_wp2_with fail
          (try simp only [Exit.inBlock, Exit.then])
          refine bodyPost_ret (results_cell_row rfl _ _ rb _ _ _ _ rfl (RET.out (Rp.err 1) (.slice none 0 0)).1 Tryz.underlying51 rfl rp_size) rfl ?_
          rw [HDS.out, HS.out]
          exact RDo.plain (RET.out (Rp.err 1) (.slice none 0 0)).2 rfl
        · by_cases hver : ver = it.ver
          · have HS := Lib.hid (show setC s1 ⟨6, key, val, num, ver⟩ now = writeC s1 ⟨key, val, 0, untilC num now⟩ from by simp [setC, HAS.out, GD.out, hneg, hver])
            clear HAS GD HL
            have hne1 : rb ≠ xb := fun e => by have := HB5.out.nd; simp [e] at this
            have hne2 : xb ≠ rb := fun e => hne1 e.symm
            go_wp2_with fail
            go_region_held3 (fun w' => w'.cell? ⟨xb, 1, none⟩ = some (.string key) ∧ w'.cell? ⟨xb, 2, none⟩ = some (.string val) ∧ w'.cell? ⟨xb, 3, none⟩ = some (.int .i64 num)) (go_keep)
              (first
                | (go_at_call 34; refine (UNT.out _).mono ?_; rintro e w6 ⟨rfl, rfl⟩)
                | (go_at_call 33; refine WR.out.mono ?_; rintro e w7 ⟨rfl, hB⟩; have HB7 := Lib.hid hB; obtain ⟨n0', n1', n2', n3', n4', n5'⟩ := cm_facts (hB.box (xb, cmO ⟨6, key, val, num, ver⟩) (.tail _ (.tail _ (.head _)))).1; obtain ⟨u0, u1, u2, u3, u4, w0', w1', w2', w3', w4', w5'⟩ := z_facts (hB.box (rb, zRp) (.tail _ (.head _))).1; simp only at n0' n1' n2' n3' n4'; clear hB))
            all_goals
              have RET7 := Lib.hid (HB7.out.rets2 (writeC s1 ⟨key, val, 0, untilC num now⟩).1 (.slice none 0 0))
              go_wp2_with fail
              (try simp only [Exit.inBlock, Exit.then])
              refine bodyPost_ret (results_cell_row rfl _ _ rb _ _ _ _ rfl RET7.out.1 Tryz.underlying51 rfl rp_size) rfl ?_
              rw [HDS.out, HS.out]
              exact RDo.plain RET7.out.2 (writeC_keys _ _)
          · have HS := Lib.hid (show setC s1 ⟨6, key, val, num, ver⟩ now = (Rp.err 11, s1) from by simp [setC, HAS.out, GD.out, hneg, hver])
            clear HAS GD HL
            go_wp2_with fail
            (try simp only [Exit.inBlock, Exit.then])
            refine bodyPost_ret (results_cell_row rfl _ _ rb _ _ _ _ rfl (RET.out (Rp.err 11) (.slice none 0 0)).1 Tryz.underlying51 rfl rp_size) rfl ?_
            rw [HDS.out, HS.out]
            exact RDo.plain (RET.out (Rp.err 11) (.slice none 0 0)).2 rfl
end Go.Proofs.YtekcjoogggoijaaGreatDoor
