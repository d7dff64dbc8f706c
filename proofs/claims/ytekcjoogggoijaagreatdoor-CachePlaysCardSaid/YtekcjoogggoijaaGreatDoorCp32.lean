/-
  The reference's cache: Do, the operations 11. (Printed by wip/tools/g_refdo.py.)
-/
import Derived.Test.YtekcjoogggoijaaGreatDoorCp25
import Derived.Test.YtekcjoogggoijaaGreatDoorCp26
import Derived.Test.YtekcjoogggoijaaGreatDoorCp29
import Derived.Deep.Cut
import Derived.Deep.CutBlock
set_option linter.unusedVariables false
set_option linter.unusedSimpArgs false
set_option linter.unnecessarySimpa false
namespace Go.Proofs.YtekcjoogggoijaaGreatDoor
open Go.RowKit
set_option maxRecDepth 100000


section
variable {w0 wr w1 : World} {rc : Nat} {v0 : Value} {s : CSt} {B : List (Nat × Obj)}
theorem RB.retK {ib rb : Nat} {o : Obj} {kv : Value} {ks : List ByteArray} (h : RB w0 rc v0 s ((ib, o) :: (rb, zRp) :: B) w1) (hs : Strs w1 wr kv ks) (r : Rp) (hr : r.keys = ks) :
    (over5 wr rb r kv).heap[rb]? = some (rpO r kv) ∧ RDo w0 rc v0 (r, s) (.returned (rpV r kv)) (over5 wr rb r kv) := by
  obtain ⟨v', h1, h2, h3, h4⟩ := h.cs
  have hbx := (h.kept0 hs.2.1).box (rb, zRp) (.tail _ (.head _))
  have hrb := (h.box (rb, zRp) (.tail _ (.head _))).1
  have hlt := lt_of_block hrb
  have hne : rc ≠ rb := fun e => by have := h.lt0; have := hbx.2; simp only at this; omega
  have hk : Kept (fun k => k = rb) w1 (over5 wr rb r kv) := (hs.2.1.mono (fun _ _ e => e.elim)).trans (over5_kept wr rb r kv) (fun _ _ e => e)
  refine ⟨over5_block hbx.1 r kv, kv, v', rfl, h1.kept hk hne (fun k hv e => h4 (rb, zRp) (.tail _ (.head _)) (by rw [hv, e])), h2.trans hk (fun k hk' e => by have := (h.box (rb, zRp) (.tail _ (.head _))).2; simp only at this; omega), h3, ?_, fun k hv => ⟨?_, fun e => ?_⟩⟩
  · simp only [hr]
    exact hs.1.kept (over5_kept wr rb r kv) (fun k hv e => by have := hs.2.2 k hv; simp only at hlt; omega)
  · have := hs.2.2 k hv
    have := h.size
    omega
  · have := hs.2.2 k hv
    have := h1.row.lt e
    omega
end
theorem someL_full (p : ByteArray → Bool) (m : Nat) (ks : List ByteArray) (i : Nat) (h : m ≤ (someL p m (ks.take i)).length) : someL p m ks = someL p m (ks.take i) := by
  unfold someL at *
  have e : ks.filter p = (ks.take i).filter p ++ (ks.drop i).filter p := by rw [← List.filter_append, List.take_append_drop]
  rw [List.length_take] at h
  rw [e, List.take_append_of_le_length (by omega)]

set_option maxHeartbeats 16000000 in
theorem refDo_scan {rc : Nat} {v : Value} (s : CSt) (op : Int) (key val : ByteArray) (num ver now : Int) (w : World) (h : RC w rc v s) (hf : FitC s) (hnd : (keys s.U).Nodup) (hr : rightC ⟨op, key, val, num, ver⟩) (n0 : 0 ≤ now) (n1 : now ≤ 1000000000000) (hop : op = 11) :
    Calls Tryz.prog 9 #[.pointer (some ⟨rc, 0, none⟩), .agg #[.int .i64 op, .string key, .string val, .int .i64 num, .int .i64 ver], .int .i64 now] w (RDo w rc v (doC s ⟨op, key, val, num, ver⟩ now)) := by
  obtain ⟨ho0, ho1, hky, hvl, hm0, hm1, hv0, hv1⟩ := hr
  simp only at ho0 ho1 hky hvl hm0 hm1 hv0 hv1
  have hkz : key.size ≤ 60 := by
    unfold keyOk at hky
    split at hky
    · first | exact hky | omega
    · first
        | omega
        | (split at hky
           · omega
           · exact hky.2)
  have hB := two_boxesR h (cmO ⟨op, key, val, num, ver⟩) zRp
  obtain ⟨rb, hrb⟩ : ∃ rb, rb = w.heap.size + 1 := ⟨_, rfl⟩
  obtain ⟨xb, hxb⟩ : ∃ xb, xb = w.heap.size := ⟨_, rfl⟩
  obtain ⟨W0, hW0⟩ : ∃ W0, W0 = (w.alloc (cmO ⟨op, key, val, num, ver⟩)).alloc zRp := ⟨_, rfl⟩
  rw [← hrb, ← hxb, ← hW0] at hB
  have RGT := Lib.hid (show Calls Tryz.prog 31 #[.agg #[.int .i64 op, .string key, .string val, .int .i64 num, .int .i64 ver]] W0 fun e w' => e = .returned (.bool true) ∧ Kept (fun _ => False) W0 w' by
    have := refCommand_any ⟨op, key, val, num, ver⟩ W0 (by simp only; omega) (by simp only; omega)
    rwa [decide_eq_true (show rightC ⟨op, key, val, num, ver⟩ from ⟨ho0, ho1, hky, hvl, hm0, hm1, hv0, hv1⟩)] at this)
  have HB := Lib.hid hB
  have HD : Hid (doC s ⟨op, key, val, num, ver⟩ now = didC ⟨s.bud, sweepC now s.U, s.ver, s.gone⟩ ⟨op, key, val, num, ver⟩ now) := Lib.hid (if_neg (fun h => h.elim (fun h => h ⟨ho0, ho1, hky, hvl, hm0, hm1, hv0, hv1⟩) (fun h => h.elim (fun h => by omega) (fun h => by omega))))
  have HFS : Hid (FitC ⟨s.bud, sweepC now s.U, s.ver, s.gone⟩) := Lib.hid (hf.swept now)
  have HNS := Lib.hid (sweep_nodup now hnd)
  have HU := Lib.hid (show s.U.length ≤ 62500 by have := usedL_ge s.U; have := hf.used; omega)
  have HW0 := Lib.hid hW0
  have HRB := Lib.hid hrb
  have HXB := Lib.hid hxb
  have hn0 : ¬ now < 0 := by omega
  have hn1 : ¬ 1000000000000 < now := by omega
  clear h hB hW0 hrb hxb hf hnd hky
  have HOPH := Lib.hid hop
  clear hop
  go_enter Tryz.func9, Tryz.ntmps9
  go_wp2_with fail
  rw [← HRB.out, ← HXB.out, ← show W0 = (w.alloc (.cells #[.int .i64 op, .string key, .string val, .int .i64 num, .int .i64 ver] 39)).alloc (.cells #[.int .i64 0, .string { data := #[] }, .int .i64 0, .int .i64 0, .slice none 0 0] 51) from HW0.out]
  refine RGT.out.mono ?_
  rintro e w1 ⟨rfl, hk1⟩
  have HB1 := Lib.hid (HB.out.kept0 hk1)
  clear HW0 HRB HXB RGT HB hk1
  go_upto_block 0 with fail
  go_cut [] (fun wr => RB w rc v ⟨s.bud, sweepC now s.U, s.ver, s.gone⟩ [(rb, zRp), (xb, cmO ⟨op, key, val, num, ver⟩)] wr)
  case first =>
    go_wp2_with fail
    go_loopg [7] s.U.length (fun gk k wr => ∃ A R, s.U = A ++ R ∧ R.length = gk ∧ k = .int .i64 ((sweepC now A).length : Int) ∧ RB w rc v ⟨s.bud, sweepC now A ++ R, s.ver, s.gone⟩ [(rb, zRp), (xb, cmO ⟨op, key, val, num, ver⟩)] wr)
    case atStart => exact ⟨[], s.U, rfl, rfl, rfl, HB1.out⟩
    case round =>
      obtain ⟨A, R, hAR, hR, rfl, hB⟩ := hrel
      obtain ⟨vv, _, k1, _, _, hsl, _⟩ := hB.cells
      simp only at k1 hsl
      have HRD := Lib.hid (Rd.of_sl hsl)
      obtain ⟨ao, ca, rfl, hca⟩ := (Rd.of_sl hsl).shape
      have HBW := Lib.hid hB
      have HAR := Lib.hid hAR
      have HR := Lib.hid hR
      clear hB hsl HB1
      cases R with
      | nil =>
        have hm : (sweepC now A ++ []).length = (sweepC now A).length := by rw [List.append_nil]
        rw [hm] at k1 hca
        clear hm hAR hR
        generalize hi : (sweepC now A).length = i at *
        clear hi
        go_wp2_with fail
        go_meet
        case rel =>
          have := HBW.out
          rw [List.append_nil] at this
          rw [HAR.out, List.append_nil]
          exact this
      | cons y R =>
        have hil : (sweepC now A).length < (sweepC now A ++ y :: R).length := by simp
        obtain ⟨g, off, rfl, _, _, _, x3⟩ := rd_it HRD.out rfl (sweepC now A).length hil
        have hy : (sweepC now A ++ y :: R)[(sweepC now A).length]'hil = y := by simp
        rw [hy] at x3
        have hub : (sweepC now A).length ≤ 62500 := by
          have h1 : (sweepC now A).length ≤ A.length := List.length_filter_le _ _
          have h2 := HU.out
          rw [HAR.out, List.length_append] at h2
          omega
        have CUT := Lib.hid (HBW.out.calls (f := 32) fun v' h => refC_cut h (by have h1 : (sweepC now A).length ≤ A.length := List.length_filter_le _ _; have h2 := HU.out; rw [HAR.out, List.length_append] at h2; simp only [List.length_append, List.length_cons] at h2 ⊢; omega) (sweepC now A).length hil)
        simp only [eraseMid] at CUT
        have SN := Lib.hid (sweep_snoc now A y)
        have OB : overB now y = (decide (0 < y.til) && decide (y.til < now)) := rfl
        have HOB := Lib.hid OB
        clear hy hAR hR OB
        obtain ⟨i, hi⟩ : ∃ i, i = (sweepC now A).length := ⟨_, rfl⟩
        obtain ⟨m, hm⟩ : ∃ m, m = (sweepC now A ++ y :: R).length := ⟨_, rfl⟩
        rw [← hm] at k1 hca
        rw [← hi, ← hm] at hil
        rw [← hi] at x3 CUT hub ⊢
        have HI := Lib.hid hi
        clear hi hm
        have hil2 : (i : Int) < (m : Int) := by omega
        by_cases t0 : 0 < y.til
        · by_cases t1 : y.til < now
          · go_wp2_with fail
            refine CUT.out.mono ?_
            rintro e w2 ⟨rfl, hB⟩
            have HB2 := Lib.hid hB
            clear hB
            have NX := Lib.hid (show sweepC now (A ++ [y]) = sweepC now A by rw [SN.out, HOB.out, decide_eq_true t0, decide_eq_true t1]; rfl)
            go_wp2_with fail
            go_roundg R.length
            case measure => have := HR.out; simp only [List.length_cons] at this; omega
            case rel => exact ⟨A ++ [y], R, by rw [HAR.out]; simp, rfl, by rw [NX.out, HI.out], by rw [NX.out]; exact HB2.out⟩
          · have NX := Lib.hid (show sweepC now (A ++ [y]) = sweepC now A ++ [y] by rw [SN.out, HOB.out, decide_eq_true t0, decide_eq_false t1]; rfl)
            go_wp2_with fail
            go_roundg R.length
            case measure => have := HR.out; simp only [List.length_cons] at this; omega
            case rel => exact ⟨A ++ [y], R, by rw [HAR.out]; simp, rfl, by rw [NX.out, List.length_append, ← HI.out]; go_num, by rw [NX.out]; have := HBW.out; simpa using this⟩
        · have NX := Lib.hid (show sweepC now (A ++ [y]) = sweepC now A ++ [y] by rw [SN.out, HOB.out, decide_eq_false t0]; rfl)
          go_wp2_with fail
          go_roundg R.length
          case measure => have := HR.out; simp only [List.length_cons] at this; omega
          case rel => exact ⟨A ++ [y], R, by rw [HAR.out]; simp, rfl, by rw [NX.out, List.length_append, ← HI.out]; go_num, by rw [NX.out]; have := HBW.out; simpa using this⟩
  case rest =>
    clear HB1 HU
    have hB := hcut
    clear hcut
    obtain ⟨s1, hs1⟩ : ∃ s1 : CSt, s1 = ⟨s.bud, sweepC now s.U, s.ver, s.gone⟩ := ⟨_, rfl⟩
    have HNS1 := Lib.hid (show (keys s1.U).Nodup by rw [hs1]; exact HNS.out)
    rw [← hs1] at hB HD HFS
    clear hs1 HNS
    have HLEN := Lib.hid (show s1.U.length ≤ 62500 by have := usedL_ge s1.U; have := HFS.out.used; omega)
    obtain ⟨m0, m1, m2, m3, m4, m5⟩ := cm_facts (hB.box (xb, cmO ⟨op, key, val, num, ver⟩) (.tail _ (.head _))).1
    simp only at m0 m1 m2 m3 m4
    have HBC := Lib.hid hB
    have HB3 := Lib.hid (hB.alloc zBox)
    obtain ⟨ib, hib⟩ : ∃ ib, ib = wc.heap.size := ⟨_, rfl⟩
    rw [← hib] at HB3
    have HIB := Lib.hid hib
    clear hB hib
    obtain ⟨vv, _, k1, _, _, hsl, kc⟩ := HBC.out.cells
    obtain ⟨ao, ca, rfl, hca⟩ := (Rd.of_sl hsl).shape
    have k1a := ((Kept.refl (fun _ => False) wc).alloc zBox).cell0 k1
    have HSL := Lib.hid (Rd.of_sl hsl)
    unfold zBox at k1a
    clear hsl
    rcases hl : look s1.U key with _ | it
    case none =>
      have AT : Hid (Calls Tryz.prog 7 #[.pointer (some ⟨rc, 0, none⟩), .string key] wc fun e w' => e = .returned (.int .i64 (-1)) ∧ wc = w') := Lib.hid (by obtain ⟨v', h1, _⟩ := HBC.out.cs; exact refC_at_none h1 (by have := HLEN.out; omega) (look_not hl))
      have HL := Lib.hid hl
      clear hl
      go_wp2_with fail
      refine AT.out.mono ?_
      rintro e w3 ⟨rfl, rfl⟩
      go_upto_region 12 with fail
      obtain ⟨W5, hW5⟩ : ∃ W5, W5 = wc.alloc zBox := ⟨_, rfl⟩
      rw [← hW5] at HB3
      rw [← HIB.out, ← show W5 = wc.alloc (.cells #[.string { data := #[] }, .string { data := #[] }, .int .i64 0, .int .i64 0] 44) from hW5]
      have HB5 : Hid (RB w rc v s1 [(ib, itBox It.none), (rb, zRp), (xb, cmO ⟨op, key, val, num, ver⟩)] W5) := Lib.hid HB3.out
      obtain ⟨it, hit⟩ : ∃ it, it = It.none := ⟨_, rfl⟩
      rw [← hit] at HB5
      have HIT := Lib.hid hit
      clear hit hW5 AT
      obtain ⟨m0, m1, m2, m3, m4, m5⟩ := cm_facts (HB5.out.box (xb, cmO ⟨op, key, val, num, ver⟩) (.tail _ (.tail _ (.head _)))).1
      obtain ⟨z0, z1, z2, z3, z4, y0, y1, y2, y3, y4, y5⟩ := z_facts (HB5.out.box (rb, zRp) (.tail _ (.head _))).1
      obtain ⟨v0, v1, v2, v3, q0, q1, q2, q3, q4⟩ := it_facts (HB5.out.box (ib, itBox it) (.head _)).1
      simp only at m0 m1 m2 m3 m4
      have RET := Lib.hid HB5.out.rets2
      obtain rfl : op = 11 := HOPH.out
      clear HBC HB3 HIB k1 k1a HSL HOPH
      by_cases h1 : num < 1
      · have HDS : Hid (doC s ⟨11, key, val, num, ver⟩ now = (Rp.err 1, s1)) := Lib.hid (HD.out.trans (show didC s1 ⟨11, key, val, num, ver⟩ now = _ from by unfold didC; rw [if_neg (by simp only; omega), if_pos (by simp only)]; unfold scanC; rw [if_pos (.inl h1)]))
        go_wp2_with fail
        (try simp only [Exit.inBlock, Exit.then])
        refine bodyPost_ret (results_cell_row rfl _ _ rb _ _ _ _ rfl (RET.out (Rp.err 1) (.slice none 0 0)).1 Tryz.underlying51 rfl rp_size) rfl ?_
        rw [HDS.out]
        exact RDo.plain (RET.out (Rp.err 1) (.slice none 0 0)).2 rfl
      · by_cases h2 : 40 < num
        · have HDS : Hid (doC s ⟨11, key, val, num, ver⟩ now = (Rp.err 1, s1)) := Lib.hid (HD.out.trans (show didC s1 ⟨11, key, val, num, ver⟩ now = _ from by unfold didC; rw [if_neg (by simp only; omega), if_pos (by simp only)]; unfold scanC; rw [if_pos (.inr h2)]))
          go_wp2_with fail
          (try simp only [Exit.inBlock, Exit.then])
          refine bodyPost_ret (results_cell_row rfl _ _ rb _ _ _ _ rfl (RET.out (Rp.err 1) (.slice none 0 0)).1 Tryz.underlying51 rfl rp_size) rfl ?_
          rw [HDS.out]
          exact RDo.plain (RET.out (Rp.err 1) (.slice none 0 0)).2 rfl
        · obtain ⟨m, rfl⟩ : ∃ m : Nat, num = m := ⟨num.toNat, by omega⟩
          have HDS : Hid (doC s ⟨11, key, val, (m : Int), ver⟩ now = (⟨0, ⟨#[]⟩, 0, 0, someL (fun k => Lib.hasPrefix k.data.toList key.data.toList && bltB val k) m (sortB (keys s1.U))⟩, s1)) := Lib.hid (HD.out.trans (show didC s1 ⟨11, key, val, (m : Int), ver⟩ now = _ from by unfold didC; rw [if_neg (by simp only; omega), if_pos (by simp only)]; unfold scanC; rw [if_neg (fun h => h.elim h1 h2)]; rfl))
          have KEYS : Hid (Calls Tryz.prog 38 #[.pointer (some ⟨rc, 0, none⟩)] W5 fun e w' => ∃ u, e = .returned u ∧ Strs W5 w' u (sortB (keys s1.U))) := Lib.hid (by obtain ⟨v', g1, _⟩ := HB5.out.cs; exact refC_keys g1 (by have := HLEN.out; omega))
          obtain ⟨i0, hi0, hz0, hz1, hz2⟩ := info_parts str_info
          have hlen : (sortB (keys s1.U)).length ≤ 62500 := by unfold keys; rw [sortB_length, List.length_map]; exact HLEN.out
          clear HL HD
          generalize sortB (keys s1.U) = ks at *
          obtain ⟨n, hn⟩ : ∃ n, n = ks.length := ⟨_, rfl⟩
          rw [← hn] at hlen
          have HN0 := Lib.hid hn
          clear hn
          go_wp2_with fail
          refine KEYS.out.mono ?_
          rintro e w6 ⟨u, rfl, hst⟩
          have HB6 := Lib.hid (HB5.out.kept0 hst.2.1)
          have HK6 := Lib.hid hst.2.1
          have HKS := Lib.hid (Rd.of_sl hst.1)
          obtain ⟨ao6, ca6, rfl, hca6⟩ := (Rd.of_sl hst.1).shape
          rw [← HN0.out] at hca6 ⊢
          clear hst KEYS m0 m1 m2 m3 m4 m5 z0 z1 z2 z3 z4 y0 y1 y2 y3 y4 y5 v0 v1 v2 v3 q0 q1 q2 q3 q4
          have SUCC := Lib.hid (fun i (hi : i < ks.length) => someL_succ (fun k => Lib.hasPrefix k.data.toList key.data.toList && bltB val k) m ks hi)
          go_wp2_with fail
          go_loopg [14, 16] n (fun gk out k wr => ∃ i : Nat, i + gk = n ∧ k = .int .i64 (i : Int) ∧ Strs w6 wr out (someL (fun k => Lib.hasPrefix k.data.toList key.data.toList && bltB val k) m (ks.take i)))
          case atStart => exact ⟨0, by omega, rfl, by rw [someL_zero]; exact Strs.nil (Kept.refl _ _)⟩
          case round =>
            obtain ⟨i, hi', rfl, hj⟩ := hrel
            obtain ⟨m0, m1, m2, m3, m4, m5⟩ := cm_facts ((HB6.out.kept0 hj.2.1).box (xb, cmO ⟨11, key, val, (m : Int), ver⟩) (.tail _ (.tail _ (.head _)))).1
            obtain ⟨z0, z1, z2, z3, z4, y0, y1, y2, y3, y4, y5⟩ := z_facts ((HB6.out.kept0 hj.2.1).box (rb, zRp) (.tail _ (.head _))).1
            simp only at m0 m1 m2 m3 m4
            obtain ⟨aoo, cao, rfl, hcao⟩ := (Rd.of_sl hj.1).shape
            have hol := someL_len (fun k => Lib.hasPrefix k.data.toList key.data.toList && bltB val k) m (ks.take i)
            by_cases hlt : i < n
            · have hik : i < ks.length := by rw [← HN0.out]; exact hlt
              obtain ⟨g, off, rfl, x0⟩ := rd_str (HKS.out.kept hj.2.1 (fun _ _ h => h)) i hik
              have SC := Lib.hid (SUCC.out i hik)
              have hsl := hj.1
              have HJ := Lib.hid hj
              clear hj
              generalize (ks[i]'hik) = kk at *
              generalize hos : someL (fun k => Lib.hasPrefix k.data.toList key.data.toList && bltB val k) m (ks.take i) = os at *
              generalize hnx : someL (fun k => Lib.hasPrefix k.data.toList key.data.toList && bltB val k) m (ks.take (i + 1)) = nx at *
              have HNX := Lib.hid hnx
              have HOS := Lib.hid hos
              clear hnx hos
              by_cases hfull : (os.length : Int) < (m : Int)
              · have hin2 : (i : Int) < (n : Int) := by omega
                have hd0 : decide (os.length < m) = true := decide_eq_true (by omega)
                have hpr := Lib.hasPrefix_raw kk key
                have HPR := Lib.hid hpr
                clear hpr
                cases hb : bltB val kk with
                | false =>
                  rcases blt_false hb with hl1 | ⟨hl1, hl2⟩
                  · have HN := Lib.hid (SC.out.trans (if_neg (fun h => by have := h.1; rw [hb, Bool.and_false] at this; simp at this)))
                    go_wp2_with fail
                    go_quiet (fail)
                    all_goals
                      go_wp2_with fail
                      go_roundg (n - i - 1)
                      case measure => omega
                      case rel => exact ⟨i + 1, by omega, by go_num, by rw [HNX.out, HN.out]; exact HJ.out.kept ((Kept.refl _ _).drewN _)⟩
                  · have HN := Lib.hid (SC.out.trans (if_neg (fun h => by have := h.1; rw [hb, Bool.and_false] at this; simp at this)))
                    go_wp2_with fail
                    go_quiet (fail)
                    all_goals
                      go_wp2_with fail
                      go_roundg (n - i - 1)
                      case measure => omega
                      case rel => exact ⟨i + 1, by omega, by go_num, by rw [HNX.out, HN.out]; exact HJ.out.kept ((Kept.refl _ _).drewN _)⟩
                | true =>
                  obtain ⟨l1, l2⟩ := blt_true hb
                  by_cases hsz : key.size ≤ kk.size
                  · have hd1 : decide (key.size ≤ kk.size) = true := decide_eq_true hsz
                    have hsz2 : (key.size : Int) ≤ (kk.size : Int) := by omega
                    cases hq : ((kk.extract 0 key.size).toList == key.toList) with
                    | false =>
                      have hpf : Lib.hasPrefix kk.data.toList key.data.toList = false := by rw [← HPR.out, hq, Bool.and_false]
                      have HN := Lib.hid (SC.out.trans (if_neg (fun h => by have := h.1; rw [hpf, Bool.false_and] at this; simp at this)))
                      go_wp2_with fail
                      go_quiet (fail)
                      all_goals
                        go_wp2_with fail
                        go_roundg (n - i - 1)
                        case measure => omega
                        case rel => exact ⟨i + 1, by omega, by go_num, by rw [HNX.out, HN.out]; exact HJ.out.kept ((Kept.refl _ _).drewN _)⟩
                    | true =>
                      have hpf : Lib.hasPrefix kk.data.toList key.data.toList = true := by rw [← HPR.out, hq, hd1]; rfl
                      have HN := Lib.hid (SC.out.trans (if_pos ⟨by rw [hpf, hb]; rfl, by omega⟩))
                      have b1 : os.length + 1 ≤ maxLen := by unfold maxLen; omega
                      have b2 : (os.length + 1) * 16 ≤ 140737488355328 := by omega
                      have hone : ∀ u ∈ [Value.string kk], u.oneCell' = true := by simp [Value.oneCell']
                      clear hb hpf
                      obtain ⟨Wr, hWr⟩ : ∃ Wr, Wr = wr := ⟨_, rfl⟩
                      go_wp2_with fail
                      go_quiet (fail)
                      all_goals
                        have hqk : Kept (fun _ => False) wr (wr.drewN nq) := (Kept.refl _ _).drewN nq
                        have APP := Lib.hid (fun (W w2 : World) (g off cap : Nat) (hk : Kept (fun _ => False) (wr.drewN nq) W) h1 h2 h3 => ((HJ.out.kept hqk).kept hk).push (g := g) (off := off) (cap := cap) (k := kk) (w2 := w2) h1 h2 h3)
                        have hslq := hsl.kept hqk (fun _ _ h => h)
                        have x0q := hqk.cell0 x0
                        go_wp2_with (at_builtin; refine wpList_append_sl _ rfl (.tmp 320) (.tmp 325) 49 rfl 9 i0 _ 1 16 Tryz.underlying49 hi0 hz0 hz1 hz2 rfl (by decide) _ os.length (strs os) rfl (hslq.kept ((Kept.refl (fun _ => False) _).alloc (.cells #[.string kk] 9)) (fun _ _ h => h)) ⟨(wr.drewN nq).heap.size, 0, none⟩ 1 1 [.string kk] rfl rfl (cells_new _ _ _ _) hone (by omega) b1 b2 ?_; intro g4 off4 cap w5 h1 h2 h3; have FINQ := Lib.hid (APP.out _ w5 g4 off4 cap ((Kept.refl (fun _ => False) _).alloc _) h1 h2 h3); clear h1 h2 h3)
                        go_roundg (n - i - 1)
                        case measure => omega
                        case rel => exact ⟨i + 1, by omega, by go_num, by rw [HNX.out, HN.out]; exact FINQ.out⟩
                  · have hd1 : decide (key.size ≤ kk.size) = false := decide_eq_false hsz
                    have hsz2 : ¬ (key.size : Int) ≤ (kk.size : Int) := by omega
                    have hpf : Lib.hasPrefix kk.data.toList key.data.toList = false := by rw [← HPR.out, hd1, Bool.false_and]
                    have HN := Lib.hid (SC.out.trans (if_neg (fun h => by have := h.1; rw [hpf, Bool.false_and] at this; simp at this)))
                    go_wp2_with fail
                    go_quiet (fail)
                    all_goals
                      go_wp2_with fail
                      go_roundg (n - i - 1)
                      case measure => omega
                      case rel => exact ⟨i + 1, by omega, by go_num, by rw [HNX.out, HN.out]; exact HJ.out.kept ((Kept.refl _ _).drewN _)⟩
              · have hin2 : (i : Int) < (n : Int) := by omega
                have hd0 : decide (os.length < m) = false := decide_eq_false (by omega)
                have hall : someL (fun k => Lib.hasPrefix k.data.toList key.data.toList && bltB val k) m ks = os := by rw [someL_full (fun k => Lib.hasPrefix k.data.toList key.data.toList && bltB val k) m ks i (by rw [HOS.out]; omega), HOS.out]
                have RETK := Lib.hid (HB6.out.retK HJ.out ⟨0, ⟨#[]⟩, 0, 0, os⟩ rfl)
                have HALL := Lib.hid hall
                clear hall hsl x0
                go_wp2_with fail
                (try simp only [Exit.inBlock, Exit.then])
                refine bodyPost_ret (results_cell_row rfl _ _ rb _ _ _ _ rfl RETK.out.1 Tryz.underlying51 rfl rp_size) rfl ?_
                rw [HDS.out, HALL.out]
                exact RETK.out.2
            · obtain rfl : i = n := by omega
              rw [List.take_of_length_le (by rw [HN0.out]; exact Nat.le_refl _)] at hj hol hcao ⊢
              have RETK := Lib.hid (HB6.out.retK hj ⟨0, ⟨#[]⟩, 0, 0, someL (fun k => Lib.hasPrefix k.data.toList key.data.toList && bltB val k) m ks⟩ rfl)
              clear hj hi' hlt hol SUCC HKS
              generalize someL (fun k => Lib.hasPrefix k.data.toList key.data.toList && bltB val k) m ks = os at *
              generalize os.length = ol at *
              go_wp2_with fail
              (try simp only [Exit.inBlock, Exit.then])
              refine bodyPost_ret (results_cell_row rfl _ _ rb _ _ _ _ rfl RETK.out.1 Tryz.underlying51 rfl rp_size) rfl ?_
              rw [HDS.out]
              exact RETK.out.2
    case some =>
      obtain ⟨i, hi, he, hy, hno⟩ := look_at hl
      have AT : Hid (Calls Tryz.prog 7 #[.pointer (some ⟨rc, 0, none⟩), .string key] wc fun e w' => e = .returned (.int .i64 (i : Int)) ∧ wc = w') := Lib.hid (by obtain ⟨v', h1, _⟩ := HBC.out.cs; exact refC_at_some h1 (by have := HLEN.out; omega) hi (by rw [he]; exact hy) hno)
      have HL := Lib.hid hl
      have HE := Lib.hid (show s1.U[i]? = some it by rw [List.getElem?_eq_getElem hi, he])
      obtain ⟨gL, oL, rfl, x0, x1, x2, x3⟩ := rd_it HSL.out rfl i hi
      rw [he] at x0 x1 x2 x3
      have x0a := ((Kept.refl (fun _ => False) wc).alloc zBox).cell0 x0
      have x1a := ((Kept.refl (fun _ => False) wc).alloc zBox).cell0 x1
      have x2a := ((Kept.refl (fun _ => False) wc).alloc zBox).cell0 x2
      have x3a := ((Kept.refl (fun _ => False) wc).alloc zBox).cell0 x3
      unfold zBox at x0a x1a x2a x3a
      have HY := Lib.hid hy
      clear hl hno he hy x0 x1 x2 x3
      obtain ⟨nU, hnU⟩ : ∃ nU, nU = s1.U.length := ⟨_, rfl⟩
      rw [← hnU] at k1 k1a hca hi
      clear hnU
      go_wp2_with fail
      refine AT.out.mono ?_
      rintro e w3 ⟨rfl, rfl⟩
      go_upto_region 12 with fail
      obtain ⟨W5, hW5⟩ : ∃ W5, W5 = wc.alloc (itBox it) := ⟨_, rfl⟩
      have hB5 := HBC.out.alloc (itBox it)
      rw [← hW5, ← HIB.out] at hB5
      have HB5 := Lib.hid hB5
      rw [← HIB.out, ← show W5 = wc.alloc (.cells #[.string it.key, .string it.val, .int .i64 it.ver, .int .i64 it.til] 44) from hW5]
      clear hB5 hW5 AT x0a x1a x2a x3a
      obtain ⟨m0, m1, m2, m3, m4, m5⟩ := cm_facts (HB5.out.box (xb, cmO ⟨op, key, val, num, ver⟩) (.tail _ (.tail _ (.head _)))).1
      obtain ⟨z0, z1, z2, z3, z4, y0, y1, y2, y3, y4, y5⟩ := z_facts (HB5.out.box (rb, zRp) (.tail _ (.head _))).1
      obtain ⟨v0, v1, v2, v3, q0, q1, q2, q3, q4⟩ := it_facts (HB5.out.box (ib, itBox it) (.head _)).1
      simp only at m0 m1 m2 m3 m4
      have RET := Lib.hid HB5.out.rets2
      obtain rfl : op = 11 := HOPH.out
      clear HBC HB3 HIB k1 k1a HSL HOPH
      by_cases h1 : num < 1
      · have HDS : Hid (doC s ⟨11, key, val, num, ver⟩ now = (Rp.err 1, s1)) := Lib.hid (HD.out.trans (show didC s1 ⟨11, key, val, num, ver⟩ now = _ from by unfold didC; rw [if_neg (by simp only; omega), if_pos (by simp only)]; unfold scanC; rw [if_pos (.inl h1)]))
        go_wp2_with fail
        (try simp only [Exit.inBlock, Exit.then])
        refine bodyPost_ret (results_cell_row rfl _ _ rb _ _ _ _ rfl (RET.out (Rp.err 1) (.slice none 0 0)).1 Tryz.underlying51 rfl rp_size) rfl ?_
        rw [HDS.out]
        exact RDo.plain (RET.out (Rp.err 1) (.slice none 0 0)).2 rfl
      · by_cases h2 : 40 < num
        · have HDS : Hid (doC s ⟨11, key, val, num, ver⟩ now = (Rp.err 1, s1)) := Lib.hid (HD.out.trans (show didC s1 ⟨11, key, val, num, ver⟩ now = _ from by unfold didC; rw [if_neg (by simp only; omega), if_pos (by simp only)]; unfold scanC; rw [if_pos (.inr h2)]))
          go_wp2_with fail
          (try simp only [Exit.inBlock, Exit.then])
          refine bodyPost_ret (results_cell_row rfl _ _ rb _ _ _ _ rfl (RET.out (Rp.err 1) (.slice none 0 0)).1 Tryz.underlying51 rfl rp_size) rfl ?_
          rw [HDS.out]
          exact RDo.plain (RET.out (Rp.err 1) (.slice none 0 0)).2 rfl
        · obtain ⟨m, rfl⟩ : ∃ m : Nat, num = m := ⟨num.toNat, by omega⟩
          have HDS : Hid (doC s ⟨11, key, val, (m : Int), ver⟩ now = (⟨0, ⟨#[]⟩, 0, 0, someL (fun k => Lib.hasPrefix k.data.toList key.data.toList && bltB val k) m (sortB (keys s1.U))⟩, s1)) := Lib.hid (HD.out.trans (show didC s1 ⟨11, key, val, (m : Int), ver⟩ now = _ from by unfold didC; rw [if_neg (by simp only; omega), if_pos (by simp only)]; unfold scanC; rw [if_neg (fun h => h.elim h1 h2)]; rfl))
          have KEYS : Hid (Calls Tryz.prog 38 #[.pointer (some ⟨rc, 0, none⟩)] W5 fun e w' => ∃ u, e = .returned u ∧ Strs W5 w' u (sortB (keys s1.U))) := Lib.hid (by obtain ⟨v', g1, _⟩ := HB5.out.cs; exact refC_keys g1 (by have := HLEN.out; omega))
          obtain ⟨i0, hi0, hz0, hz1, hz2⟩ := info_parts str_info
          have hlen : (sortB (keys s1.U)).length ≤ 62500 := by unfold keys; rw [sortB_length, List.length_map]; exact HLEN.out
          clear HL HD
          generalize sortB (keys s1.U) = ks at *
          obtain ⟨n, hn⟩ : ∃ n, n = ks.length := ⟨_, rfl⟩
          rw [← hn] at hlen
          have HN0 := Lib.hid hn
          clear hn
          go_wp2_with fail
          refine KEYS.out.mono ?_
          rintro e w6 ⟨u, rfl, hst⟩
          have HB6 := Lib.hid (HB5.out.kept0 hst.2.1)
          have HK6 := Lib.hid hst.2.1
          have HKS := Lib.hid (Rd.of_sl hst.1)
          obtain ⟨ao6, ca6, rfl, hca6⟩ := (Rd.of_sl hst.1).shape
          rw [← HN0.out] at hca6 ⊢
          clear hst KEYS m0 m1 m2 m3 m4 m5 z0 z1 z2 z3 z4 y0 y1 y2 y3 y4 y5 v0 v1 v2 v3 q0 q1 q2 q3 q4
          have SUCC := Lib.hid (fun i (hi : i < ks.length) => someL_succ (fun k => Lib.hasPrefix k.data.toList key.data.toList && bltB val k) m ks hi)
          go_wp2_with fail
          go_loopg [14, 16] n (fun gk out k wr => ∃ i : Nat, i + gk = n ∧ k = .int .i64 (i : Int) ∧ Strs w6 wr out (someL (fun k => Lib.hasPrefix k.data.toList key.data.toList && bltB val k) m (ks.take i)))
          case atStart => exact ⟨0, by omega, rfl, by rw [someL_zero]; exact Strs.nil (Kept.refl _ _)⟩
          case round =>
            obtain ⟨i, hi', rfl, hj⟩ := hrel
            obtain ⟨m0, m1, m2, m3, m4, m5⟩ := cm_facts ((HB6.out.kept0 hj.2.1).box (xb, cmO ⟨11, key, val, (m : Int), ver⟩) (.tail _ (.tail _ (.head _)))).1
            obtain ⟨z0, z1, z2, z3, z4, y0, y1, y2, y3, y4, y5⟩ := z_facts ((HB6.out.kept0 hj.2.1).box (rb, zRp) (.tail _ (.head _))).1
            simp only at m0 m1 m2 m3 m4
            obtain ⟨aoo, cao, rfl, hcao⟩ := (Rd.of_sl hj.1).shape
            have hol := someL_len (fun k => Lib.hasPrefix k.data.toList key.data.toList && bltB val k) m (ks.take i)
            by_cases hlt : i < n
            · have hik : i < ks.length := by rw [← HN0.out]; exact hlt
              obtain ⟨g, off, rfl, x0⟩ := rd_str (HKS.out.kept hj.2.1 (fun _ _ h => h)) i hik
              have SC := Lib.hid (SUCC.out i hik)
              have hsl := hj.1
              have HJ := Lib.hid hj
              clear hj
              generalize (ks[i]'hik) = kk at *
              generalize hos : someL (fun k => Lib.hasPrefix k.data.toList key.data.toList && bltB val k) m (ks.take i) = os at *
              generalize hnx : someL (fun k => Lib.hasPrefix k.data.toList key.data.toList && bltB val k) m (ks.take (i + 1)) = nx at *
              have HNX := Lib.hid hnx
              have HOS := Lib.hid hos
              clear hnx hos
              by_cases hfull : (os.length : Int) < (m : Int)
              · have hin2 : (i : Int) < (n : Int) := by omega
                have hd0 : decide (os.length < m) = true := decide_eq_true (by omega)
                have hpr := Lib.hasPrefix_raw kk key
                have HPR := Lib.hid hpr
                clear hpr
                cases hb : bltB val kk with
                | false =>
                  rcases blt_false hb with hl1 | ⟨hl1, hl2⟩
                  · have HN := Lib.hid (SC.out.trans (if_neg (fun h => by have := h.1; rw [hb, Bool.and_false] at this; simp at this)))
                    go_wp2_with fail
                    go_quiet (fail)
                    all_goals
                      go_wp2_with fail
                      go_roundg (n - i - 1)
                      case measure => omega
                      case rel => exact ⟨i + 1, by omega, by go_num, by rw [HNX.out, HN.out]; exact HJ.out.kept ((Kept.refl _ _).drewN _)⟩
                  · have HN := Lib.hid (SC.out.trans (if_neg (fun h => by have := h.1; rw [hb, Bool.and_false] at this; simp at this)))
                    go_wp2_with fail
                    go_quiet (fail)
                    all_goals
                      go_wp2_with fail
                      go_roundg (n - i - 1)
                      case measure => omega
                      case rel => exact ⟨i + 1, by omega, by go_num, by rw [HNX.out, HN.out]; exact HJ.out.kept ((Kept.refl _ _).drewN _)⟩
                | true =>
                  obtain ⟨l1, l2⟩ := blt_true hb
                  by_cases hsz : key.size ≤ kk.size
                  · have hd1 : decide (key.size ≤ kk.size) = true := decide_eq_true hsz
                    have hsz2 : (key.size : Int) ≤ (kk.size : Int) := by omega
                    cases hq : ((kk.extract 0 key.size).toList == key.toList) with
                    | false =>
                      have hpf : Lib.hasPrefix kk.data.toList key.data.toList = false := by rw [← HPR.out, hq, Bool.and_false]
                      have HN := Lib.hid (SC.out.trans (if_neg (fun h => by have := h.1; rw [hpf, Bool.false_and] at this; simp at this)))
                      go_wp2_with fail
                      go_quiet (fail)
                      all_goals
                        go_wp2_with fail
                        go_roundg (n - i - 1)
                        case measure => omega
                        case rel => exact ⟨i + 1, by omega, by go_num, by rw [HNX.out, HN.out]; exact HJ.out.kept ((Kept.refl _ _).drewN _)⟩
                    | true =>
                      have hpf : Lib.hasPrefix kk.data.toList key.data.toList = true := by rw [← HPR.out, hq, hd1]; rfl
                      have HN := Lib.hid (SC.out.trans (if_pos ⟨by rw [hpf, hb]; rfl, by omega⟩))
                      have b1 : os.length + 1 ≤ maxLen := by unfold maxLen; omega
                      have b2 : (os.length + 1) * 16 ≤ 140737488355328 := by omega
                      have hone : ∀ u ∈ [Value.string kk], u.oneCell' = true := by simp [Value.oneCell']
                      clear hb hpf
                      obtain ⟨Wr, hWr⟩ : ∃ Wr, Wr = wr := ⟨_, rfl⟩
                      go_wp2_with fail
                      go_quiet (fail)
                      all_goals
                        have hqk : Kept (fun _ => False) wr (wr.drewN nq) := (Kept.refl _ _).drewN nq
                        have APP := Lib.hid (fun (W w2 : World) (g off cap : Nat) (hk : Kept (fun _ => False) (wr.drewN nq) W) h1 h2 h3 => ((HJ.out.kept hqk).kept hk).push (g := g) (off := off) (cap := cap) (k := kk) (w2 := w2) h1 h2 h3)
                        have hslq := hsl.kept hqk (fun _ _ h => h)
                        have x0q := hqk.cell0 x0
                        go_wp2_with (at_builtin; refine wpList_append_sl _ rfl (.tmp 320) (.tmp 325) 49 rfl 9 i0 _ 1 16 Tryz.underlying49 hi0 hz0 hz1 hz2 rfl (by decide) _ os.length (strs os) rfl (hslq.kept ((Kept.refl (fun _ => False) _).alloc (.cells #[.string kk] 9)) (fun _ _ h => h)) ⟨(wr.drewN nq).heap.size, 0, none⟩ 1 1 [.string kk] rfl rfl (cells_new _ _ _ _) hone (by omega) b1 b2 ?_; intro g4 off4 cap w5 h1 h2 h3; have FINQ := Lib.hid (APP.out _ w5 g4 off4 cap ((Kept.refl (fun _ => False) _).alloc _) h1 h2 h3); clear h1 h2 h3)
                        go_roundg (n - i - 1)
                        case measure => omega
                        case rel => exact ⟨i + 1, by omega, by go_num, by rw [HNX.out, HN.out]; exact FINQ.out⟩
                  · have hd1 : decide (key.size ≤ kk.size) = false := decide_eq_false hsz
                    have hsz2 : ¬ (key.size : Int) ≤ (kk.size : Int) := by omega
                    have hpf : Lib.hasPrefix kk.data.toList key.data.toList = false := by rw [← HPR.out, hd1, Bool.false_and]
                    have HN := Lib.hid (SC.out.trans (if_neg (fun h => by have := h.1; rw [hpf, Bool.false_and] at this; simp at this)))
                    go_wp2_with fail
                    go_quiet (fail)
                    all_goals
                      go_wp2_with fail
                      go_roundg (n - i - 1)
                      case measure => omega
                      case rel => exact ⟨i + 1, by omega, by go_num, by rw [HNX.out, HN.out]; exact HJ.out.kept ((Kept.refl _ _).drewN _)⟩
              · have hin2 : (i : Int) < (n : Int) := by omega
                have hd0 : decide (os.length < m) = false := decide_eq_false (by omega)
                have hall : someL (fun k => Lib.hasPrefix k.data.toList key.data.toList && bltB val k) m ks = os := by rw [someL_full (fun k => Lib.hasPrefix k.data.toList key.data.toList && bltB val k) m ks i (by rw [HOS.out]; omega), HOS.out]
                have RETK := Lib.hid (HB6.out.retK HJ.out ⟨0, ⟨#[]⟩, 0, 0, os⟩ rfl)
                have HALL := Lib.hid hall
                clear hall hsl x0
                go_wp2_with fail
                (try simp only [Exit.inBlock, Exit.then])
                refine bodyPost_ret (results_cell_row rfl _ _ rb _ _ _ _ rfl RETK.out.1 Tryz.underlying51 rfl rp_size) rfl ?_
                rw [HDS.out, HALL.out]
                exact RETK.out.2
            · obtain rfl : i = n := by omega
              rw [List.take_of_length_le (by rw [HN0.out]; exact Nat.le_refl _)] at hj hol hcao ⊢
              have RETK := Lib.hid (HB6.out.retK hj ⟨0, ⟨#[]⟩, 0, 0, someL (fun k => Lib.hasPrefix k.data.toList key.data.toList && bltB val k) m ks⟩ rfl)
              clear hj hi' hlt hol SUCC HKS
              generalize someL (fun k => Lib.hasPrefix k.data.toList key.data.toList && bltB val k) m ks = os at *
              generalize os.length = ol at *
              go_wp2_with fail
              (try simp only [Exit.inBlock, Exit.then])
              refine bodyPost_ret (results_cell_row rfl _ _ rb _ _ _ _ rfl RETK.out.1 Tryz.underlying51 rfl rp_size) rfl ?_
              rw [HDS.out]
              exact RETK.out.2
end Go.Proofs.YtekcjoogggoijaaGreatDoor
