/-
  The reference's cache: Do, the operations 7, 8. (Printed by wip/tools/g_refdo.py.)
-/
import Derived.Test.YtekcjoogggoijaaGreatDoorCp25
import Derived.Test.YtekcjoogggoijaaGreatDoorCp26
import Derived.Test.YtekcjoogggoijaaGreatDoorCp29
import Derived.Deep.Cut
import Derived.Deep.CutBlock
set_option linter.unusedVariables false
set_option linter.unusedSimpArgs false
set_option linter.unnecessarySimpa false
namespace Go.Proofs.YtekcjoogggoijaaGreatDoor
open Go.RowKit
set_option maxRecDepth 100000

set_option maxHeartbeats 16000000 in
theorem refDo_counts {rc : Nat} {v : Value} (s : CSt) (op : Int) (key val : ByteArray) (num ver now : Int) (w : World) (h : RC w rc v s) (hf : FitC s) (hnd : (keys s.U).Nodup) (hr : rightC ⟨op, key, val, num, ver⟩) (n0 : 0 ≤ now) (n1 : now ≤ 1000000000000) (hop : op = 7 ∨ op = 8) :
    Calls Tryz.prog 9 #[.pointer (some ⟨rc, 0, none⟩), .agg #[.int .i64 op, .string key, .string val, .int .i64 num, .int .i64 ver], .int .i64 now] w (RDo w rc v (doC s ⟨op, key, val, num, ver⟩ now)) := by
  obtain ⟨ho0, ho1, hky, hvl, hm0, hm1, hv0, hv1⟩ := hr
  simp only at ho0 ho1 hky hvl hm0 hm1 hv0 hv1
  have hkz : key.size ≤ 60 := by
    unfold keyOk at hky
    split at hky
    · first | exact hky | omega
    · first
        | omega
        | (split at hky
           · omega
           · exact hky.2)
  have hB := two_boxesR h (cmO ⟨op, key, val, num, ver⟩) zRp
  obtain ⟨rb, hrb⟩ : ∃ rb, rb = w.heap.size + 1 := ⟨_, rfl⟩
  obtain ⟨xb, hxb⟩ : ∃ xb, xb = w.heap.size := ⟨_, rfl⟩
  obtain ⟨W0, hW0⟩ : ∃ W0, W0 = (w.alloc (cmO ⟨op, key, val, num, ver⟩)).alloc zRp := ⟨_, rfl⟩
  rw [← hrb, ← hxb, ← hW0] at hB
  have RGT := Lib.hid (show Calls Tryz.prog 31 #[.agg #[.int .i64 op, .string key, .string val, .int .i64 num, .int .i64 ver]] W0 fun e w' => e = .returned (.bool true) ∧ Kept (fun _ => False) W0 w' by
    have := refCommand_any ⟨op, key, val, num, ver⟩ W0 (by simp only; omega) (by simp only; omega)
    rwa [decide_eq_true (show rightC ⟨op, key, val, num, ver⟩ from ⟨ho0, ho1, hky, hvl, hm0, hm1, hv0, hv1⟩)] at this)
  have HB := Lib.hid hB
  have HD : Hid (doC s ⟨op, key, val, num, ver⟩ now = didC ⟨s.bud, sweepC now s.U, s.ver, s.gone⟩ ⟨op, key, val, num, ver⟩ now) := Lib.hid (if_neg (fun h => h.elim (fun h => h ⟨ho0, ho1, hky, hvl, hm0, hm1, hv0, hv1⟩) (fun h => h.elim (fun h => by omega) (fun h => by omega))))
  have HFS : Hid (FitC ⟨s.bud, sweepC now s.U, s.ver, s.gone⟩) := Lib.hid (hf.swept now)
  have HNS := Lib.hid (sweep_nodup now hnd)
  have HU := Lib.hid (show s.U.length ≤ 62500 by have := usedL_ge s.U; have := hf.used; omega)
  have HW0 := Lib.hid hW0
  have HRB := Lib.hid hrb
  have HXB := Lib.hid hxb
  have hn0 : ¬ now < 0 := by omega
  have hn1 : ¬ 1000000000000 < now := by omega
  clear h hB hW0 hrb hxb hf hnd hky
  go_enter Tryz.func9, Tryz.ntmps9
  go_wp2_with fail
  rw [← HRB.out, ← HXB.out, ← show W0 = (w.alloc (.cells #[.int .i64 op, .string key, .string val, .int .i64 num, .int .i64 ver] 39)).alloc (.cells #[.int .i64 0, .string { data := #[] }, .int .i64 0, .int .i64 0, .slice none 0 0] 51) from HW0.out]
  refine RGT.out.mono ?_
  rintro e w1 ⟨rfl, hk1⟩
  have HB1 := Lib.hid (HB.out.kept0 hk1)
  clear HW0 HRB HXB RGT HB hk1
  go_upto_block 0 with fail
  go_cut [] (fun wr => RB w rc v ⟨s.bud, sweepC now s.U, s.ver, s.gone⟩ [(rb, zRp), (xb, cmO ⟨op, key, val, num, ver⟩)] wr)
  case first =>
    go_wp2_with fail
    go_loopg [7] s.U.length (fun gk k wr => ∃ A R, s.U = A ++ R ∧ R.length = gk ∧ k = .int .i64 ((sweepC now A).length : Int) ∧ RB w rc v ⟨s.bud, sweepC now A ++ R, s.ver, s.gone⟩ [(rb, zRp), (xb, cmO ⟨op, key, val, num, ver⟩)] wr)
    case atStart => exact ⟨[], s.U, rfl, rfl, rfl, HB1.out⟩
    case round =>
      obtain ⟨A, R, hAR, hR, rfl, hB⟩ := hrel
      obtain ⟨vv, _, k1, _, _, hsl, _⟩ := hB.cells
      simp only at k1 hsl
      have HRD := Lib.hid (Rd.of_sl hsl)
      obtain ⟨ao, ca, rfl, hca⟩ := (Rd.of_sl hsl).shape
      have HBW := Lib.hid hB
      have HAR := Lib.hid hAR
      have HR := Lib.hid hR
      clear hB hsl HB1
      cases R with
      | nil =>
        have hm : (sweepC now A ++ []).length = (sweepC now A).length := by rw [List.append_nil]
        rw [hm] at k1 hca
        clear hm hAR hR
        generalize hi : (sweepC now A).length = i at *
        clear hi
        go_wp2_with fail
        go_meet
        case rel =>
          have := HBW.out
          rw [List.append_nil] at this
          rw [HAR.out, List.append_nil]
          exact this
      | cons y R =>
        have hil : (sweepC now A).length < (sweepC now A ++ y :: R).length := by simp
        obtain ⟨g, off, rfl, _, _, _, x3⟩ := rd_it HRD.out rfl (sweepC now A).length hil
        have hy : (sweepC now A ++ y :: R)[(sweepC now A).length]'hil = y := by simp
        rw [hy] at x3
        have hub : (sweepC now A).length ≤ 62500 := by
          have h1 : (sweepC now A).length ≤ A.length := List.length_filter_le _ _
          have h2 := HU.out
          rw [HAR.out, List.length_append] at h2
          omega
        have CUT := Lib.hid (HBW.out.calls (f := 32) fun v' h => refC_cut h (by have h1 : (sweepC now A).length ≤ A.length := List.length_filter_le _ _; have h2 := HU.out; rw [HAR.out, List.length_append] at h2; simp only [List.length_append, List.length_cons] at h2 ⊢; omega) (sweepC now A).length hil)
        simp only [eraseMid] at CUT
        have SN := Lib.hid (sweep_snoc now A y)
        have OB : overB now y = (decide (0 < y.til) && decide (y.til < now)) := rfl
        have HOB := Lib.hid OB
        clear hy hAR hR OB
        obtain ⟨i, hi⟩ : ∃ i, i = (sweepC now A).length := ⟨_, rfl⟩
        obtain ⟨m, hm⟩ : ∃ m, m = (sweepC now A ++ y :: R).length := ⟨_, rfl⟩
        rw [← hm] at k1 hca
        rw [← hi, ← hm] at hil
        rw [← hi] at x3 CUT hub ⊢
        have HI := Lib.hid hi
        clear hi hm
        have hil2 : (i : Int) < (m : Int) := by omega
        by_cases t0 : 0 < y.til
        · by_cases t1 : y.til < now
          · go_wp2_with fail
            refine CUT.out.mono ?_
            rintro e w2 ⟨rfl, hB⟩
            have HB2 := Lib.hid hB
            clear hB
            have NX := Lib.hid (show sweepC now (A ++ [y]) = sweepC now A by rw [SN.out, HOB.out, decide_eq_true t0, decide_eq_true t1]; rfl)
            go_wp2_with fail
            go_roundg R.length
            case measure => have := HR.out; simp only [List.length_cons] at this; omega
            case rel => exact ⟨A ++ [y], R, by rw [HAR.out]; simp, rfl, by rw [NX.out, HI.out], by rw [NX.out]; exact HB2.out⟩
          · have NX := Lib.hid (show sweepC now (A ++ [y]) = sweepC now A ++ [y] by rw [SN.out, HOB.out, decide_eq_true t0, decide_eq_false t1]; rfl)
            go_wp2_with fail
            go_roundg R.length
            case measure => have := HR.out; simp only [List.length_cons] at this; omega
            case rel => exact ⟨A ++ [y], R, by rw [HAR.out]; simp, rfl, by rw [NX.out, List.length_append, ← HI.out]; go_num, by rw [NX.out]; have := HBW.out; simpa using this⟩
        · have NX := Lib.hid (show sweepC now (A ++ [y]) = sweepC now A ++ [y] by rw [SN.out, HOB.out, decide_eq_false t0]; rfl)
          go_wp2_with fail
          go_roundg R.length
          case measure => have := HR.out; simp only [List.length_cons] at this; omega
          case rel => exact ⟨A ++ [y], R, by rw [HAR.out]; simp, rfl, by rw [NX.out, List.length_append, ← HI.out]; go_num, by rw [NX.out]; have := HBW.out; simpa using this⟩
  case rest =>
    clear HB1 HU
    have hB := hcut
    clear hcut
    obtain ⟨s1, hs1⟩ : ∃ s1 : CSt, s1 = ⟨s.bud, sweepC now s.U, s.ver, s.gone⟩ := ⟨_, rfl⟩
    have HNS1 := Lib.hid (show (keys s1.U).Nodup by rw [hs1]; exact HNS.out)
    rw [← hs1] at hB HD HFS
    clear hs1 HNS
    have HLEN := Lib.hid (show s1.U.length ≤ 62500 by have := usedL_ge s1.U; have := HFS.out.used; omega)
    obtain ⟨m0, m1, m2, m3, m4, m5⟩ := cm_facts (hB.box (xb, cmO ⟨op, key, val, num, ver⟩) (.tail _ (.head _))).1
    simp only at m0 m1 m2 m3 m4
    have HBC := Lib.hid hB
    have HB3 := Lib.hid (hB.alloc zBox)
    obtain ⟨ib, hib⟩ : ∃ ib, ib = wc.heap.size := ⟨_, rfl⟩
    rw [← hib] at HB3
    have HIB := Lib.hid hib
    clear hB hib
    obtain ⟨vv, _, k1, _, _, hsl, kc⟩ := HBC.out.cells
    obtain ⟨ao, ca, rfl, hca⟩ := (Rd.of_sl hsl).shape
    have k1a := ((Kept.refl (fun _ => False) wc).alloc zBox).cell0 k1
    have HSL := Lib.hid (Rd.of_sl hsl)
    unfold zBox at k1a
    clear hsl
    rcases hl : look s1.U key with _ | it
    case none =>
      have AT : Hid (Calls Tryz.prog 7 #[.pointer (some ⟨rc, 0, none⟩), .string key] wc fun e w' => e = .returned (.int .i64 (-1)) ∧ wc = w') := Lib.hid (by obtain ⟨v', h1, _⟩ := HBC.out.cs; exact refC_at_none h1 (by have := HLEN.out; omega) (look_not hl))
      have HL := Lib.hid hl
      clear hl
      go_wp2_with fail
      refine AT.out.mono ?_
      rintro e w3 ⟨rfl, rfl⟩
      go_upto_region 12 with fail
      obtain ⟨W5, hW5⟩ : ∃ W5, W5 = wc.alloc zBox := ⟨_, rfl⟩
      rw [← hW5] at HB3
      rw [← HIB.out, ← show W5 = wc.alloc (.cells #[.string { data := #[] }, .string { data := #[] }, .int .i64 0, .int .i64 0] 44) from hW5]
      have HB5 : Hid (RB w rc v s1 [(ib, itBox It.none), (rb, zRp), (xb, cmO ⟨op, key, val, num, ver⟩)] W5) := Lib.hid HB3.out
      obtain ⟨it, hit⟩ : ∃ it, it = It.none := ⟨_, rfl⟩
      rw [← hit] at HB5
      have HIT := Lib.hid hit
      clear hit hW5 AT
      obtain ⟨m0, m1, m2, m3, m4, m5⟩ := cm_facts (HB5.out.box (xb, cmO ⟨op, key, val, num, ver⟩) (.tail _ (.tail _ (.head _)))).1
      obtain ⟨z0, z1, z2, z3, z4, y0, y1, y2, y3, y4, y5⟩ := z_facts (HB5.out.box (rb, zRp) (.tail _ (.head _))).1
      obtain ⟨v0, v1, v2, v3, q0, q1, q2, q3, q4⟩ := it_facts (HB5.out.box (ib, itBox it) (.head _)).1
      simp only at m0 m1 m2 m3 m4
      have RET := Lib.hid HB5.out.rets2
      have HDS : Hid (doC s ⟨op, key, val, num, ver⟩ now = itemC s1 ⟨op, key, val, num, ver⟩ now) := Lib.hid (HD.out.trans (show didC s1 ⟨op, key, val, num, ver⟩ now = _ from by unfold didC; rw [if_neg (by simp only; omega), if_neg (by simp only; omega), if_neg (by simp only; omega), if_neg (by simp only; omega)]))
      clear HBC HB3 HIB k1 k1a HSL HD
      rcases hop with rfl | rfl
      · have HS := Lib.hid (show itemC s1 ⟨7, key, val, num, ver⟩ now = (Rp.err 9, s1) from by simp [itemC, HL.out])
        clear HL
        go_wp2_with fail
        (try simp only [Exit.inBlock, Exit.then])
        refine bodyPost_ret (results_cell_row rfl _ _ rb _ _ _ _ rfl (RET.out (Rp.err 9) (.slice none 0 0)).1 Tryz.underlying51 rfl rp_size) rfl ?_
        rw [HDS.out, HS.out]
        exact RDo.plain (RET.out (Rp.err 9) (.slice none 0 0)).2 rfl
      · have HS := Lib.hid (show itemC s1 ⟨8, key, val, num, ver⟩ now = (Rp.err 9, s1) from by simp [itemC, HL.out])
        clear HL
        go_wp2_with fail
        (try simp only [Exit.inBlock, Exit.then])
        refine bodyPost_ret (results_cell_row rfl _ _ rb _ _ _ _ rfl (RET.out (Rp.err 9) (.slice none 0 0)).1 Tryz.underlying51 rfl rp_size) rfl ?_
        rw [HDS.out, HS.out]
        exact RDo.plain (RET.out (Rp.err 9) (.slice none 0 0)).2 rfl
    case some =>
      obtain ⟨i, hi, he, hy, hno⟩ := look_at hl
      have AT : Hid (Calls Tryz.prog 7 #[.pointer (some ⟨rc, 0, none⟩), .string key] wc fun e w' => e = .returned (.int .i64 (i : Int)) ∧ wc = w') := Lib.hid (by obtain ⟨v', h1, _⟩ := HBC.out.cs; exact refC_at_some h1 (by have := HLEN.out; omega) hi (by rw [he]; exact hy) hno)
      have HL := Lib.hid hl
      have HE := Lib.hid (show s1.U[i]? = some it by rw [List.getElem?_eq_getElem hi, he])
      obtain ⟨gL, oL, rfl, x0, x1, x2, x3⟩ := rd_it HSL.out rfl i hi
      rw [he] at x0 x1 x2 x3
      have x0a := ((Kept.refl (fun _ => False) wc).alloc zBox).cell0 x0
      have x1a := ((Kept.refl (fun _ => False) wc).alloc zBox).cell0 x1
      have x2a := ((Kept.refl (fun _ => False) wc).alloc zBox).cell0 x2
      have x3a := ((Kept.refl (fun _ => False) wc).alloc zBox).cell0 x3
      unfold zBox at x0a x1a x2a x3a
      have HY := Lib.hid hy
      clear hl hno he hy x0 x1 x2 x3
      obtain ⟨nU, hnU⟩ : ∃ nU, nU = s1.U.length := ⟨_, rfl⟩
      rw [← hnU] at k1 k1a hca hi
      clear hnU
      go_wp2_with fail
      refine AT.out.mono ?_
      rintro e w3 ⟨rfl, rfl⟩
      go_upto_region 12 with fail
      obtain ⟨W5, hW5⟩ : ∃ W5, W5 = wc.alloc (itBox it) := ⟨_, rfl⟩
      have hB5 := HBC.out.alloc (itBox it)
      rw [← hW5, ← HIB.out] at hB5
      have HB5 := Lib.hid hB5
      rw [← HIB.out, ← show W5 = wc.alloc (.cells #[.string it.key, .string it.val, .int .i64 it.ver, .int .i64 it.til] 44) from hW5]
      clear hB5 hW5 AT x0a x1a x2a x3a
      obtain ⟨m0, m1, m2, m3, m4, m5⟩ := cm_facts (HB5.out.box (xb, cmO ⟨op, key, val, num, ver⟩) (.tail _ (.tail _ (.head _)))).1
      obtain ⟨z0, z1, z2, z3, z4, y0, y1, y2, y3, y4, y5⟩ := z_facts (HB5.out.box (rb, zRp) (.tail _ (.head _))).1
      obtain ⟨v0, v1, v2, v3, q0, q1, q2, q3, q4⟩ := it_facts (HB5.out.box (ib, itBox it) (.head _)).1
      simp only at m0 m1 m2 m3 m4
      have RET := Lib.hid HB5.out.rets2
      have HDS : Hid (doC s ⟨op, key, val, num, ver⟩ now = itemC s1 ⟨op, key, val, num, ver⟩ now) := Lib.hid (HD.out.trans (show didC s1 ⟨op, key, val, num, ver⟩ now = _ from by unfold didC; rw [if_neg (by simp only; omega), if_neg (by simp only; omega), if_neg (by simp only; omega), if_neg (by simp only; omega)]))
      clear HBC HB3 HIB k1 k1a HSL HD
      rcases hop with rfl | rfl
      · have hmem := List.mem_of_getElem? HE.out
        have hvs := HFS.out.vall it hmem
        have hks := HFS.out.keyl it hmem
        have NUM := Lib.hid (fun W => by have := ref_number it.val W (by omega); rw [refNum_eq] at this; exact this)
        clear hmem hvs
        rcases hn : numberB it.val with _ | n
        · rw [hn] at NUM
          go_wp2_with fail
          refine (NUM.out _).mono ?_
          rintro e w6 ⟨rfl, hk6⟩
          have HB6 := Lib.hid (HB5.out.kept0 hk6)
          rw [show numV none = .tuple #[.int .i64 0, .bool false] from rfl]
          obtain ⟨n0', n1', n2', n3', n4', n5'⟩ := cm_facts (HB6.out.box (xb, cmO ⟨7, key, val, num, ver⟩) (.tail _ (.tail _ (.head _)))).1
          obtain ⟨u0, u1, u2, u3, u4, w0', w1', w2', w3', w4', w5'⟩ := z_facts (HB6.out.box (rb, zRp) (.tail _ (.head _))).1
          obtain ⟨a0, a1, a2, a3, b0', b1', b2', b3', b4'⟩ := it_facts (HB6.out.box (ib, itBox it) (.head _)).1
          simp only at n0' n1' n2' n3' n4' b0' b1' b2' b3'
          clear hk6
          have HS := Lib.hid (show itemC s1 ⟨7, key, val, num, ver⟩ now = (Rp.err 12, s1) from by simp [itemC, HL.out, incrC, hn])
          have RET6 := Lib.hid HB6.out.rets2
          clear HL hn
          go_wp2_with fail
          (try simp only [Exit.inBlock, Exit.then])
          refine bodyPost_ret (results_cell_row rfl _ _ rb _ _ _ _ rfl (RET6.out (Rp.err 12) (.slice none 0 0)).1 Tryz.underlying51 rfl rp_size) rfl ?_
          rw [HDS.out, HS.out]
          exact RDo.plain (RET6.out (Rp.err 12) (.slice none 0 0)).2 rfl
        · rw [hn] at NUM
          obtain ⟨_, hna, hnb⟩ := number_some hn
          go_wp2_with fail
          refine (NUM.out _).mono ?_
          rintro e w6 ⟨rfl, hk6⟩
          have HB6 := Lib.hid (HB5.out.kept0 hk6)
          rw [show numV (some n) = .tuple #[.int .i64 n, .bool true] from rfl]
          obtain ⟨n0', n1', n2', n3', n4', n5'⟩ := cm_facts (HB6.out.box (xb, cmO ⟨7, key, val, num, ver⟩) (.tail _ (.tail _ (.head _)))).1
          obtain ⟨u0, u1, u2, u3, u4, w0', w1', w2', w3', w4', w5'⟩ := z_facts (HB6.out.box (rb, zRp) (.tail _ (.head _))).1
          obtain ⟨a0, a1, a2, a3, b0', b1', b2', b3', b4'⟩ := it_facts (HB6.out.box (ib, itBox it) (.head _)).1
          simp only at n0' n1' n2' n3' n4' b0' b1' b2' b3'
          clear hk6
          have hbt : (-9223372036854775808 : Int) ≤ n + num ∧ n + num ≤ 9223372036854775807 := by omega
          have hw1 := IntWalk.wrap64_in _ hbt
          have hw2 := IntWalk.i64_in _ hbt
          clear hbt
          by_cases hlo : n + num < -1000000000000
          · have HS := Lib.hid (show itemC s1 ⟨7, key, val, num, ver⟩ now = (Rp.err 12, s1) from by simp [itemC, HL.out, incrC, hn, hlo])
            have RET6 := Lib.hid HB6.out.rets2
            clear HL hn
            go_wp2_with fail
            (try simp only [Exit.inBlock, Exit.then])
            refine bodyPost_ret (results_cell_row rfl _ _ rb _ _ _ _ rfl (RET6.out (Rp.err 12) (.slice none 0 0)).1 Tryz.underlying51 rfl rp_size) rfl ?_
            rw [HDS.out, HS.out]
            exact RDo.plain (RET6.out (Rp.err 12) (.slice none 0 0)).2 rfl
          · by_cases hhi : 1000000000000 < n + num
            · have HS := Lib.hid (show itemC s1 ⟨7, key, val, num, ver⟩ now = (Rp.err 12, s1) from by simp [itemC, HL.out, incrC, hn, hhi])
              have RET6 := Lib.hid HB6.out.rets2
              clear HL hn
              go_wp2_with fail
              (try simp only [Exit.inBlock, Exit.then])
              refine bodyPost_ret (results_cell_row rfl _ _ rb _ _ _ _ rfl (RET6.out (Rp.err 12) (.slice none 0 0)).1 Tryz.underlying51 rfl rp_size) rfl ?_
              rw [HDS.out, HS.out]
              exact RDo.plain (RET6.out (Rp.err 12) (.slice none 0 0)).2 rfl
            · have hbig := writeC_errno s1 ⟨it.key, itoaB (n + num), it.ver, it.til⟩
              have HS := Lib.hid (show itemC s1 ⟨7, key, val, num, ver⟩ now = (if (writeC s1 ⟨it.key, itoaB (n + num), it.ver, it.til⟩).1.errno = 0 then ⟨0, (writeC s1 ⟨it.key, itoaB (n + num), it.ver, it.til⟩).1.val, n + num, (writeC s1 ⟨it.key, itoaB (n + num), it.ver, it.til⟩).1.ver, (writeC s1 ⟨it.key, itoaB (n + num), it.ver, it.til⟩).1.keys⟩ else (writeC s1 ⟨it.key, itoaB (n + num), it.ver, it.til⟩).1, (writeC s1 ⟨it.key, itoaB (n + num), it.ver, it.til⟩).2) from by simp [itemC, HL.out, incrC, hn, hlo, hhi])
              have DIG := Lib.hid (fun W => ref_digits (n + num) W (by omega) (by omega))
              have WKEY := Lib.hid (writeC_keys s1 ⟨it.key, itoaB (n + num), it.ver, it.til⟩)
              have hisz : (itoaB (n + num)).size ≤ 1000 := itoaB_size (by omega) (by omega)
              have WRT := Lib.hid (fun (W : World) (v' : Value) (h : RC W rc v' s1) => refC_writeX s1 ⟨it.key, itoaB (n + num), it.ver, it.til⟩ W h HFS.out HNS1.out hks (by simp only; exact hisz))
              simp only at WRT
              generalize itoaB (n + num) = itx at *
              obtain ⟨wr', hwr⟩ : ∃ wr', wr' = writeC s1 ⟨it.key, itx, it.ver, it.til⟩ := ⟨_, rfl⟩
              rw [← hwr] at HS WKEY hbig
              have WRT2 := Lib.hid (fun (W : World) (v' : Value) (h : RC W rc v' s1) => by have := WRT.out W v' h; rw [← hwr] at this; exact this)
              clear hwr WRT HL hn
              go_wp2_with fail
              refine (DIG.out _).mono ?_
              rintro e w8 ⟨rfl, hk8⟩
              have HB8 := Lib.hid (HB6.out.kept0 hk8)
              obtain ⟨c0', c1', c2', c3', d0', d1', d2', d3', d4'⟩ := it_facts (HB8.out.box (ib, itBox it) (.head _)).1
              have hB9 := HB8.out.over (o' := itBox ⟨it.key, itx, it.ver, it.til⟩) (kept_at (o := 1) (.string itx) (Kept.refl _ _)) (by rw [setCell_block (HB8.out.box (ib, itBox it) (.head _)).1]; rfl)
              have WR := Lib.hid (hB9.calls (f := 33) fun v' h => WRT2.out _ v' h)
              obtain ⟨_, _, _, _, g0', g1', g2', g3', g4'⟩ := it_facts (hB9.box (ib, itBox ⟨it.key, itx, it.ver, it.til⟩) (.head _)).1
              simp only at g0' g1' g2' g3'
              clear hB9 hk8 WRT2
              go_wp2_with fail
              refine WR.out.mono ?_
              rintro e wa ⟨rfl, hB⟩
              obtain ⟨⟨re, rv, rn, rver, rks⟩, s2⟩ := wr'
              simp only at hbig
              have WKE := WKEY.out
              dsimp only at WKE
              subst WKE
              obtain ⟨n0b, n1b, n2b, n3b, n4b, n5b⟩ := cm_facts (hB.box (xb, cmO ⟨7, key, val, num, ver⟩) (.tail _ (.tail _ (.head _)))).1
              obtain ⟨u0b, u1b, u2b, u3b, u4b, w0b, w1b, w2b, w3b, w4b, w5b⟩ := z_facts (hB.box (rb, zRp) (.tail _ (.head _))).1
              simp only at n0b n1b n2b n3b n4b
              have RETa := Lib.hid hB.rets2
              have HBA := Lib.hid hB
              clear hB WR
              rcases hbig with rfl | rfl
              · have hBc : RB w rc v s2 ((wa.heap.size, .cells #[.int .i64 0, .string rv, .int .i64 (n + num), .int .i64 rver, .slice none 0 0] 51) :: (ib, itBox ⟨it.key, itx, it.ver, it.til⟩) :: (rb, zRp) :: [(xb, cmO ⟨7, key, val, num, ver⟩)]) (wa.alloc (.cells #[.int .i64 0, .string rv, .int .i64 (n + num), .int .i64 rver, .slice none 0 0] 51)) := HBA.out.alloc _
                have RETc := Lib.hid hBc.rets3
                obtain ⟨u0c, u1c, u2c, u3c, u4c, w0c, w1c, w2c, w3c, w4c, w5c⟩ := z_facts (hBc.box (rb, zRp) (.tail _ (.tail _ (.head _)))).1
                clear hBc
                have hBd := (HBA.out.swap.ret ⟨0, rv, n + num, rver, []⟩ (.slice none 0 0)).2.alloc (.cells #[.int .i64 0, .string rv, .int .i64 (n + num), .int .i64 rver, .slice none 0 0] 51)
                have RETd := Lib.hid (And.intro (hBd.box (rb, rpO ⟨0, rv, n + num, rver, []⟩ (.slice none 0 0)) (.tail _ (.head _))).1 hBd.rstep)
                clear hBd
                go_wp2_with fail
                (try simp only [Exit.inBlock, Exit.then])
                refine bodyPost_ret (results_cell_row rfl _ _ rb _ _ _ _ rfl RETd.out.1 Tryz.underlying51 rfl rp_size) rfl ?_
                rw [HDS.out, HS.out]
                exact RDo.plain RETd.out.2 rfl
              · have hBc : RB w rc v s2 ((wa.heap.size, .cells #[.int .i64 13, .string rv, .int .i64 rn, .int .i64 rver, .slice none 0 0] 51) :: (ib, itBox ⟨it.key, itx, it.ver, it.til⟩) :: (rb, zRp) :: [(xb, cmO ⟨7, key, val, num, ver⟩)]) (wa.alloc (.cells #[.int .i64 13, .string rv, .int .i64 rn, .int .i64 rver, .slice none 0 0] 51)) := HBA.out.alloc _
                have RETc := Lib.hid hBc.rets3
                obtain ⟨u0c, u1c, u2c, u3c, u4c, w0c, w1c, w2c, w3c, w4c, w5c⟩ := z_facts (hBc.box (rb, zRp) (.tail _ (.tail _ (.head _)))).1
                clear hBc
                have hBd := (HBA.out.swap.ret ⟨13, rv, rn, rver, []⟩ (.slice none 0 0)).2.alloc (.cells #[.int .i64 13, .string rv, .int .i64 rn, .int .i64 rver, .slice none 0 0] 51)
                have RETd := Lib.hid (And.intro (hBd.box (rb, rpO ⟨13, rv, rn, rver, []⟩ (.slice none 0 0)) (.tail _ (.head _))).1 hBd.rstep)
                clear hBd
                go_wp2_with fail
                (try simp only [Exit.inBlock, Exit.then])
                refine bodyPost_ret (results_cell_row rfl _ _ rb _ _ _ _ rfl RETd.out.1 Tryz.underlying51 rfl rp_size) rfl ?_
                rw [HDS.out, HS.out]
                exact RDo.plain RETd.out.2 rfl
      · have hmem := List.mem_of_getElem? HE.out
        have hks := HFS.out.keyl it hmem
        have hvs := HFS.out.vall it hmem
        clear hmem
        by_cases hbig : 500 < (it.val.size : Int) + (val.size : Int)
        · have HS := Lib.hid (show itemC s1 ⟨8, key, val, num, ver⟩ now = (Rp.err 13, s1) from by simp [itemC, HL.out, behindC, hbig])
          clear HL
          go_wp2_with fail
          (try simp only [Exit.inBlock, Exit.then])
          refine bodyPost_ret (results_cell_row rfl _ _ rb _ _ _ _ rfl (RET.out (Rp.err 13) (.slice none 0 0)).1 Tryz.underlying51 rfl rp_size) rfl ?_
          rw [HDS.out, HS.out]
          exact RDo.plain (RET.out (Rp.err 13) (.slice none 0 0)).2 rfl
        · have HS := Lib.hid (show itemC s1 ⟨8, key, val, num, ver⟩ now = writeC s1 ⟨it.key, it.val ++ val, it.ver, it.til⟩ from by simp [itemC, HL.out, behindC, hbig])
          have hsz : (it.val ++ val).size = it.val.size + val.size := ByteArray.size_append
          have hB6 := HB5.out.over (o' := itBox ⟨it.key, it.val ++ val, it.ver, it.til⟩) (kept_at (o := 1) (.string (it.val ++ val)) (Kept.refl _ _)) (by rw [setCell_block (HB5.out.box (ib, itBox it) (.head _)).1]; rfl)
          have WR := Lib.hid (hB6.calls (f := 33) fun v' h => refC_writeX s1 ⟨it.key, it.val ++ val, it.ver, it.til⟩ _ h HFS.out HNS1.out (by simp only; exact hks) (by simp only; omega))
          simp only at WR
          obtain ⟨_, _, _, _, c0', c1', c2', c3', c4'⟩ := it_facts (hB6.box (ib, itBox ⟨it.key, it.val ++ val, it.ver, it.til⟩) (.head _)).1
          simp only at c0' c1' c2' c3'
          clear HL hB6 hsz
          go_wp2_with fail
          refine WR.out.mono ?_
          rintro e w7 ⟨rfl, hB⟩
          obtain ⟨u0, u1, u2, u3, u4, w0', w1', w2', w3', w4', w5'⟩ := z_facts (hB.box (rb, zRp) (.tail _ (.head _))).1
          have RET7 := Lib.hid (hB.rets2 (writeC s1 ⟨it.key, it.val ++ val, it.ver, it.til⟩).1 (.slice none 0 0))
          clear hB
          go_wp2_with fail
          (try simp only [Exit.inBlock, Exit.then])
          refine bodyPost_ret (results_cell_row rfl _ _ rb _ _ _ _ rfl RET7.out.1 Tryz.underlying51 rfl rp_size) rfl ?_
          rw [HDS.out, HS.out]
          exact RDo.plain RET7.out.2 (writeC_keys _ _)
end Go.Proofs.YtekcjoogggoijaaGreatDoor
