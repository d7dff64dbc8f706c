/-
  The law CachePlays: the walk (under way).
-/
import Derived.Test.YtekcjoogggoijaaGreatDoorCp44
import Derived.Test.YtekcjoogggoijaaGreatDoorCp45
import Derived.Deep.Cut
import Derived.Deep.CutBlock
import Derived.Deep.RegionHeld3
set_option linter.unusedVariables false
set_option linter.unusedSimpArgs false
set_option linter.unnecessarySimpa false
namespace Go.Proofs.YtekcjoogggoijaaGreatDoor
open Go.RowKit
set_option maxRecDepth 100000

set_option maxHeartbeats 16000000 in
theorem cachePlays_walk (budget : Int) (v1 : Value) (l : List COp) (w : World) (hL : Laid w) (hb0 : -9223372036854775808 ≤ budget) (hb1 : budget ≤ 9223372036854775807) (hl : Rd w 7 l.length v1 (l.flatMap COp.cells)) (hls : ∀ o ∈ l, CmB o.c ∧ -9223372036854775808 ≤ o.now ∧ o.now ≤ 9223372036854775807) :
    Calls Tryz.prog 3 #[.int .i64 budget, v1] w fun e w' => e = .returned (.bool true) ∧ Kept (fun _ => False) w w' := by
  obtain ⟨ao, ca, rfl, hca⟩ := hl.shape
  have AL := Lib.hid (alive_true w hL)
  have HG := Lib.hid (show ∀ k, isG k → k < w.heap.size from fun k hk => hL.lt hk)
  have HLD := Lib.hid hL
  have HL := Lib.hid hl
  have HLS := Lib.hid hls
  clear hL hl hls
  obtain ⟨N, hN⟩ : ∃ N, N = l.length := ⟨_, rfl⟩
  rw [← hN] at hca ⊢
  have HN := Lib.hid hN
  clear hN
  by_cases c1 : (100 : Int) < N
  · go_enter Tryz.func3, Tryz.ntmps3
    go_wp2_with fail
    refine AL.out.mono ?_
    rintro e w1 ⟨rfl, hk⟩
    have HK := Lib.hid hk
    clear hk
    go_wp2_with fail
    go_ret
    exact ⟨rfl, HK.out⟩
  have d1 : N ≤ 100 := by omega
  go_enter Tryz.func3, Tryz.ntmps3
  go_wp2_with fail
  refine AL.out.mono ?_
  rintro e w1 ⟨rfl, hk1⟩
  have HK1 := Lib.hid hk1
  have NEW := Lib.hid (cnew budget w1 (HLD.out.kept hk1 (fun _ _ h => h)) hb0 hb1)
  clear hk1
  go_wp2_with fail
  refine NEW.out.mono ?_
  rintro e w2 ⟨c, rfl, hc, ⟨O, h2, h3⟩, hk2⟩
  have HC2 := Lib.hid h2
  have HO2 := Lib.hid h3
  have HK2 := Lib.hid hk2
  clear h2 h3 hk2 NEW
  go_wp2_with fail
  refine (refCaches budget w2 hb0 hb1).mono ?_
  rintro e w3 ⟨rc, rfl, hr, hk3, hrc⟩
  have ST := Lib.hid (fun (w4 : World) h4 => PlayC.start (w4 := w4) HK1.out HG.out HC2.out HO2.out HK2.out hr hk3 hrc h4)
  clear hr hk3 hrc
  go_wp2_with fail
  have P0 := Lib.hid (ST.out _ rfl)
  clear ST
  generalize w3.heap.size = kb at *
  go_loopg [8] N (fun gk k wr => ∃ i : Nat, i + gk = N ∧ k = .int .i64 (i : Int) ∧ ∃ O F R v s LsT LsI, PlayC w wr c rc kb O F R v s (i : Int) LsT LsI ∧ LsT.length ≤ 2 * i ∧ LsI.length ≤ i)
  case atStart => exact ⟨0, by omega, rfl, _, _, _, _, _, [], [], P0.out, by simp, by simp⟩
  case round =>
    clear P0 HC2 HO2 HK2
    obtain ⟨i, hi, rfl, O, F, R, v, s, LsT, LsI, hp, hT, hI⟩ := hrel
    by_cases hlt : i < N
    · have hil : i < l.length := HN.out ▸ hlt
      obtain ⟨g, off, rfl, z0, z1, z2, z3, z4, z5, z6⟩ := rd_cop HL.out i hil
      have hob := HLS.out _ (List.getElem_mem hil)
      generalize l[i] = op at *
      have x0 := hp.tri.kept.cell0 z0
      have x1 := hp.tri.kept.cell0 z1
      have x2 := hp.tri.kept.cell0 z2
      have x3 := hp.tri.kept.cell0 z3
      have x4 := hp.tri.kept.cell0 z4
      have x5 := hp.tri.kept.cell0 z5
      have x6 := hp.tri.kept.cell0 z6
      obtain ⟨⟨xop, xk, xv, xnum, xver⟩, now, near⟩ := op
      simp only at x0 x1 x2 x3 x4 x5 x6 hob
      have HP := Lib.hid hp
      have HT := Lib.hid hT
      have HI := Lib.hid hI
      have HOB := Lib.hid hob
      clear hp z0 z1 z2 z3 z4 z5 z6 hT hI hob
      go_upto_region 11 with fail
      have BX := HP.out.box (.cells #[.int .i64 xop, .string xk, .string xv, .int .i64 xnum, .int .i64 xver, .int .i64 now, .bool near] 41)
      have HXB := Lib.hid (show w.heap.size ≤ wr.heap.size from HP.out.tri.kept.size)
      obtain ⟨W1, hW1⟩ : ∃ W1, W1 = wr.alloc (.cells #[.int .i64 xop, .string xk, .string xv, .int .i64 xnum, .int .i64 xver, .int .i64 now, .bool near] 41) := ⟨_, rfl⟩
      obtain ⟨xb, hxb⟩ : ∃ xb, xb = wr.heap.size := ⟨_, rfl⟩
      rw [← hW1, ← hxb] at BX
      rw [← hxb] at HXB
      rw [← hW1, ← hxb]
      clear hW1 hxb
      have HA1 := Lib.hid BX.1
      have HP1 := Lib.hid BX.2
      have q0 := cell_at BX.1.1 0
      have q1 := cell_at BX.1.1 1
      have q2 := cell_at BX.1.1 2
      have q3 := cell_at BX.1.1 3
      have q4 := cell_at BX.1.1 4
      have q5 := cell_at BX.1.1 5
      have q6 := cell_at BX.1.1 6
      simp at q0 q1 q2 q3 q4 q5 q6
      clear BX HP x0 x1 x2 x3 x4 x5 x6
      by_cases ck : (300 : Int) < xk.size
      · go_wp2_with fail
        refine bodyPost_ret (results_tmp rfl _ _ _) rfl ?_
        exact ⟨rfl, HP1.out.tri.kept⟩
      by_cases cv : (1000 : Int) < xv.size
      · go_wp2_with fail
        refine bodyPost_ret (results_tmp rfl _ _ _) rfl ?_
        exact ⟨rfl, HP1.out.tri.kept⟩
      have dk : xk.size ≤ 300 := by omega
      have dv : xv.size ≤ 1000 := by omega
      obtain ⟨kI, hat, hkI⟩ := HP1.out.atKey xk
      have AT := Lib.hid hat
      have HKI := Lib.hid hkI
      clear hat hkI
      go_upto_region 14 with (go_at_call 7; refine (AT.out _ (Kept.refl _ _)).mono ?_; rintro e w5 ⟨rfl, rfl⟩)
      go_cut [64] (fun t wx => (∃ b : Bool, t = .bool b ∧ (b = true → 0 ≤ kI)) ∧ wx = W1)
      case first =>
        as_aux_lemma =>
          cases near with
          | false =>
            go_wp2_with fail
            go_meet
            case rel => exact ⟨⟨_, rfl, fun e => by cases e⟩, rfl⟩
          | true =>
            by_cases k0 : (0 : Int) ≤ kI
            · go_wp2_with fail
              go_meet
              case rel => exact ⟨⟨_, rfl, fun _ => k0⟩, rfl⟩
            · go_wp2_with fail
              go_meet
              case rel => exact ⟨⟨_, rfl, fun e => by cases e⟩, rfl⟩
      case rest =>
        obtain ⟨⟨b, rfl, hbk⟩, hw1⟩ := hcut
        subst hw1
        go_upto_if 64 with fail
        go_cut [] (fun wx => ∃ ver' : Int, Aside wx (S2 O F rc v) xb (.cells #[.int .i64 xop, .string xk, .string xv, .int .i64 xnum, .int .i64 ver', .int .i64 now, .bool near] 41) ∧ PlayC w wx c rc kb O F R v s (i : Int) LsT LsI)
        case first =>
          as_aux_lemma =>
            cases b with
            | false =>
              go_wp2_with fail
              go_meet
              case rel => exact ⟨_, HA1.out, HP1.out⟩
            | true =>
              obtain ⟨j, hj, rfl⟩ : ∃ (j : Nat) (_ : j < s.U.length), kI = (j : Int) := by
                rcases HKI.out with e | e
                · have := hbk rfl
                  omega
                · exact e
              have k1 := HP1.out.ref.cells.2.1
              obtain ⟨ao1, ca1, rfl, hca1⟩ := (Rd.of_sl HP1.out.ref.row).shape
              obtain ⟨gL, oL, rfl, y0, y1, y2, y3⟩ := rd_it (Rd.of_sl HP1.out.ref.row) rfl j hj
              obtain ⟨nU, hnU⟩ : ∃ nU, nU = s.U.length := ⟨_, rfl⟩
              have hjn : j < nU := hnU ▸ hj
              have hn6 : nU ≤ 62500 := by have h1 := usedL_ge s.U; have h2 := HP1.out.good.used; have h3 := HP1.out.good.b1; omega
              rw [← hnU] at k1 hca1
              have fz := frozen_at HA1.out.1 4
              generalize (s.U[j]).ver = vv at *
              have SETP := Lib.hid (show Aside (wc.setCell ⟨xb, 4, none⟩ (.int .i64 vv)) (S2 O F rc _) xb (.cells #[.int .i64 xop, .string xk, .string xv, .int .i64 xnum, .int .i64 vv, .int .i64 now, .bool near] 41) ∧ PlayC w (wc.setCell ⟨xb, 4, none⟩ (.int .i64 vv)) c rc kb O F R _ s (i : Int) LsT LsI from
                ⟨⟨setCell_block HA1.out.1 _ _, HA1.out.2⟩, HP1.out.over HA1.out HXB.out ((Kept.refl (fun k => k = xb) wc).setCell (p := ⟨xb, 4, none⟩) (fun _ => rfl) _)⟩)
              clear hj hnU hbk y0 y1 y3
              go_wp2_with fail
              go_meet
              case rel => exact ⟨vv, SETP.out⟩
        case rest =>
          obtain ⟨ver', ha5, hp5⟩ := hcut
          have HA5 := Lib.hid ha5
          have HP5 := Lib.hid hp5
          clear ha5 hp5 hbk q0 q1 q2 q3 q4 q5 q6 AT HKI HA1 HP1
          have hi100 : (i : Int) ≤ 1000000000 := by omega
          obtain ⟨D, hD⟩ : ∃ D, D = doC s ⟨xop, xk, xv, xnum, ver'⟩ now := ⟨_, rfl⟩
          have DOC := Lib.hid (fun W hW => HP5.out.doesB hi100 ⟨xop, xk, xv, xnum, ver'⟩ now (by simp only; omega) (by simp only; omega) W hW)
          have HKL := Lib.hid (show D.1.keys.length ≤ 40 by rw [hD]; exact doC_few _ _ _)
          rw [← hD] at DOC
          have HALF := Lib.hid (fun (O6 : Nat → Prop) (w6 : World) (h : HalfC w w6 c rc kb O6 F R v s D.2 (i : Int) LsT LsI) W hW => h.doesB hi100 ⟨xop, xk, xv, xnum, ver'⟩ now (by simp only; omega) (by simp only; omega) (by rw [hD]) W hW)
          rw [← hD] at HALF
          simp only [rpV] at DOC HALF
          clear hD
          obtain ⟨r, s'⟩ := D
          simp only at DOC HALF HKL
          have q0 := cell_at HA5.out.1 0
          have q1 := cell_at HA5.out.1 1
          have q2 := cell_at HA5.out.1 2
          have q3 := cell_at HA5.out.1 3
          have q4 := cell_at HA5.out.1 4
          have q5 := cell_at HA5.out.1 5
          have q6 := cell_at HA5.out.1 6
          simp at q0 q1 q2 q3 q4 q5 q6
          have HWC := Lib.hid HP5.out.tri.kept.size
          have nl := lt_of_block HA5.out.1
          have nx1wc : xb ≠ wc.heap.size := (by omega)
          have nx2wc : xb ≠ wc.heap.size + 1 := (by omega)
          have nx3wc : wc.heap.size ≠ xb := (by omega)
          have nx4wc : wc.heap.size + 1 ≠ xb := (by omega)
          clear nl
          go_upto_region 16 with fail
          go_cut [11, 12] (fun a b wx => ∃ ba bb, a = .pointer (some ⟨ba, 0, none⟩) ∧ b = .pointer (some ⟨bb, 0, none⟩) ∧ BothC w wx c rc kb F R s' ((i : Int) + 1) LsT LsI r ba bb)
          case first =>
            go_region_held3 (fun w' => w'.cell? ⟨xb, 0, none⟩ = some (.int .i64 xop) ∧ w'.cell? ⟨xb, 1, none⟩ = some (.string xk) ∧ w'.cell? ⟨xb, 2, none⟩ = some (.string xv) ∧ w'.cell? ⟨xb, 3, none⟩ = some (.int .i64 xnum) ∧ w'.cell? ⟨xb, 4, none⟩ = some (.int .i64 ver') ∧ w'.cell? ⟨xb, 5, none⟩ = some (.int .i64 now) ∧ w'.cell? ⟨xb, 6, none⟩ = some (.bool near)) (go_keep)
              (first
                | (go_at_call 8; refine (DOC.out _ (by repeat' (first | exact Kept.refl _ _ | refine Kept.drew ?_ | refine Kept.alloc ?_ _))).mono ?_; rintro e w6 ⟨kva, rfl, hz6, O6, hh6, hha6, hf6, hbx6, hax6⟩; obtain ⟨aoa, caa, rfl, hcaa⟩ := (Rd.of_sl hha6.1).shape; have HZ6 := Lib.hid hz6; have HH6 := Lib.hid hh6; have HHA6 := Lib.hid hha6; have HF6 := Lib.hid hf6; have HW6 := Lib.hid hh6.tri.kept.size; have HX6 := Lib.hid (hax6 _ _ HA5.out); have nl := lt_of_block HX6.out.1; have nx1w6 : xb ≠ w6.heap.size := (by omega); have nx2w6 : xb ≠ w6.heap.size + 1 := (by omega); have nx3w6 : w6.heap.size ≠ xb := (by omega); have nx4w6 : w6.heap.size + 1 ≠ xb := (by omega); clear nl; have p0 := cell_at HX6.out.1 0; have p1 := cell_at HX6.out.1 1; have p2 := cell_at HX6.out.1 2; have p3 := cell_at HX6.out.1 3; have p4 := cell_at HX6.out.1 4; have p5 := cell_at HX6.out.1 5; have p6 := cell_at HX6.out.1 6; simp at p0 p1 p2 p3 p4 p5 p6; first | (with_reducible have B1 := Lib.hid (hbx6 _ _ (Nat.le_refl _) (bx1d wc _))) | ((with_reducible have B1 := Lib.hid (hbx6 _ _ (Nat.le_refl _) (bx2ad wc _ _))); (with_reducible have B2 := Lib.hid (hbx6 _ _ (by omega) (bx2bd wc _ _)))) | (have B0 := True.intro); clear hz6 hh6 hha6 hf6 hbx6 hax6)
                | (go_at_call 9; refine (HALF.out _ _ HH6.out _ (by repeat' (first | exact Kept.refl _ _ | refine Kept.drew ?_ | refine Kept.alloc ?_ _))).mono ?_; rintro e w7 ⟨kvb, rfl, hz7, v7, hp7, hhb7, hha7, hbx7, hax7⟩; obtain ⟨aob, cab, rfl, hcab⟩ := (Rd.of_sl hhb7.1).shape; have HZ7 := Lib.hid hz7; have HP7 := Lib.hid hp7; have HHB7 := Lib.hid hhb7; have HHA7 := Lib.hid (hha7 _ _ _ _ _ HHA6.out); have HX7 := Lib.hid (hax7 _ _ HX6.out); have p0 := cell_at HX7.out.1 0; have p1 := cell_at HX7.out.1 1; have p2 := cell_at HX7.out.1 2; have p3 := cell_at HX7.out.1 3; have p4 := cell_at HX7.out.1 4; have p5 := cell_at HX7.out.1 5; have p6 := cell_at HX7.out.1 6; simp at p0 p1 p2 p3 p4 p5 p6; first | (have D2 := Lib.hid (hax7 _ zRp B2.out); have D1 := Lib.hid (hax7 _ zRp B1.out); obtain ⟨zl0, zl1, zl2, zl3, zl4, zly0, zly1, zly2, zly3, zly4, zly5⟩ := z_facts D1.out.1; obtain ⟨zu0, zu1, zu2, zu3, zu4, zuy0, zuy1, zuy2, zuy3, zuy4, zuy5⟩ := z_facts D2.out.1; have ne1 : wc.heap.size ≠ wc.heap.size + 1 := (by omega); have ne2 : wc.heap.size + 1 ≠ wc.heap.size := (by omega)) | (have D1 := Lib.hid (hax7 _ zRp B1.out); (with_reducible have E3 := hbx7 _ _ (Nat.le_refl _) (bx1 w6 _)); have D3 := Lib.hid (show Aside w7 _ w6.heap.size zRp from E3); clear E3; obtain ⟨zl0, zl1, zl2, zl3, zl4, zly0, zly1, zly2, zly3, zly4, zly5⟩ := z_facts D1.out.1; obtain ⟨zu0, zu1, zu2, zu3, zu4, zuy0, zuy1, zuy2, zuy3, zuy4, zuy5⟩ := z_facts D3.out.1; have ne1 : wc.heap.size ≠ w6.heap.size := (by have hz := HZ6.out; simp at hz; omega); have ne2 : w6.heap.size ≠ wc.heap.size := (by have hz := HZ6.out; simp at hz; omega)) | (have D1 := Lib.hid (hax7 _ zRp B1.out); obtain ⟨zl0, zl1, zl2, zl3, zl4, zly0, zly1, zly2, zly3, zly4, zly5⟩ := z_facts D1.out.1) | ((with_reducible have E3 := hbx7 _ _ (Nat.le_refl _) (bx2a w6 _ _)); have D3 := Lib.hid (show Aside w7 _ w6.heap.size zRp from E3); (with_reducible have E4 := hbx7 _ _ (by omega) (bx2b w6 _ _)); have D4 := Lib.hid (show Aside w7 _ (w6.heap.size + 1) zRp from E4); clear E3 E4; obtain ⟨zl0, zl1, zl2, zl3, zl4, zly0, zly1, zly2, zly3, zly4, zly5⟩ := z_facts D3.out.1; obtain ⟨zu0, zu1, zu2, zu3, zu4, zuy0, zuy1, zuy2, zuy3, zuy4, zuy5⟩ := z_facts D4.out.1; have ne1 : w6.heap.size ≠ w6.heap.size + 1 := (by omega); have ne2 : w6.heap.size + 1 ≠ w6.heap.size := (by omega)) | ((with_reducible have E3 := hbx7 _ _ (Nat.le_refl _) (bx1 w6 _)); have D3 := Lib.hid (show Aside w7 _ w6.heap.size zRp from E3); clear E3; obtain ⟨zl0, zl1, zl2, zl3, zl4, zly0, zly1, zly2, zly3, zly4, zly5⟩ := z_facts D3.out.1) | (have D0 := True.intro); clear hz7 hp7 hhb7 hha7 hbx7 hax7))
            all_goals
              go_wp2_with fail
              go_meet
              case rel =>
                first
                  | (with_reducible exact ⟨_, _, rfl, rfl, both_A1 HP7.out HHA7.out HHB7.out HF6.out⟩)
                  | (with_reducible exact ⟨_, _, rfl, rfl, both_A2 HP7.out HHA7.out HHB7.out HF6.out⟩)
                  | (with_reducible exact ⟨_, _, rfl, rfl, both_B1 HP7.out HHA7.out HHB7.out HF6.out HWC.out D1.out⟩)
                  | (with_reducible exact ⟨_, _, rfl, rfl, both_B1 HP7.out HHA7.out HHB7.out HF6.out HW6.out D3.out⟩)
                  | (with_reducible exact ⟨_, _, rfl, rfl, both_B2 HP7.out HHA7.out HHB7.out HF6.out HWC.out D1.out⟩)
                  | (with_reducible exact ⟨_, _, rfl, rfl, both_B2 HP7.out HHA7.out HHB7.out HF6.out HW6.out D3.out⟩)
                  | (with_reducible exact ⟨_, _, rfl, rfl, both_C HP7.out HHA7.out HHB7.out HF6.out ne1 HWC.out D1.out (Nat.le_succ_of_le HWC.out) D2.out⟩)
                  | (with_reducible exact ⟨_, _, rfl, rfl, both_C HP7.out HHA7.out HHB7.out HF6.out ne2 (Nat.le_succ_of_le HWC.out) D2.out HWC.out D1.out⟩)
                  | (with_reducible exact ⟨_, _, rfl, rfl, both_C HP7.out HHA7.out HHB7.out HF6.out ne1 HWC.out D1.out HW6.out D3.out⟩)
                  | (with_reducible exact ⟨_, _, rfl, rfl, both_C HP7.out HHA7.out HHB7.out HF6.out ne2 HW6.out D3.out HWC.out D1.out⟩)
                  | (with_reducible exact ⟨_, _, rfl, rfl, both_C HP7.out HHA7.out HHB7.out HF6.out ne1 HW6.out D3.out (Nat.le_succ_of_le HW6.out) D4.out⟩)
                  | (with_reducible exact ⟨_, _, rfl, rfl, both_C HP7.out HHA7.out HHB7.out HF6.out ne2 (Nat.le_succ_of_le HW6.out) D4.out HW6.out D3.out⟩)
          case rest =>
            obtain ⟨ba, bb, rfl, rfl, hbo⟩ := hcut
            obtain ⟨kva, kvb, O7, v7, hp7, haa, hab, hha, hhb, hf⟩ := hbo
            obtain ⟨aoa, caa, rfl, hcaa⟩ := (Rd.of_sl hha.1).shape
            obtain ⟨aob, cab, rfl, hcab⟩ := (Rd.of_sl hhb.1).shape
            have HP7 := Lib.hid hp7
            have HAA7 := Lib.hid haa
            have HAB7 := Lib.hid hab
            have HHA7 := Lib.hid hha
            have HHB7 := Lib.hid hhb
            have KT := Lib.hid (hp7.keepT hha hf (by have := HT.out; omega) (by have := HKL.out; omega))
            have pa4 : wc.cell? ⟨ba, 4, none⟩ = some (.slice aoa r.keys.length caa) := cell_at haa.1 4
            clear hp7 haa hab hha hhb hf q0 q1 q2 q3 q4 q5 q6 DOC HALF HP5 HA5
            go_upto_region 18 with (go_at_call 10; refine KT.out.mono ?_; rintro e w8 ⟨rfl, F8, R8, hp8, hg8, hu8⟩)
            have HP8 := Lib.hid hp8
            have HAA8 := Lib.hid ((HAA7.out.sub HP7.out.fewer).grew hg8)
            have HAB8 := Lib.hid ((HAB7.out.sub HP7.out.fewer).grew hg8)
            have HHA8 := Lib.hid ((HHA7.out.sub HP7.out.fewer).grew hg8)
            have HHB8 := Lib.hid ((HHB7.out.sub HP7.out.fewer).grew hg8)
            have IT := Lib.hid hp8.items
            clear hp8 hg8 hu8 KT HP7 HAA7 HAB7 HHA7 HHB7 pa4
            go_upto_region 19 with (first
              | (go_at_call 11; refine IT.out.mono ?_; rintro e w9 ⟨uI, O9, rfl, hp9, hg9, hhi, hfi⟩; have HP9 := Lib.hid hp9; have HG9 := Lib.hid (hg9 R8); have HHI := Lib.hid hhi; have HFI := Lib.hid hfi; have ORD := Lib.hid hp9.order; clear hp9 hg9 hhi hfi)
              | (go_at_call 12; refine ORD.out.mono ?_; rintro e w10 ⟨uO, rfl, hp10, hk10, hho, hfo⟩; have HP10 := Lib.hid hp10; have HK10 := Lib.hid hk10; have HHO := Lib.hid hho; have HFO := Lib.hid hfo; clear hp10 hk10 hho hfo))
            have HAA10 := Lib.hid ((HAA8.out.grew HG9.out).keep HK10.out)
            have HAB10 := Lib.hid ((HAB8.out.grew HG9.out).keep HK10.out)
            have HHA10 := Lib.hid ((HHA8.out.grew HG9.out).grew (Grew.of_kept HK10.out))
            have HHB10 := Lib.hid ((HHB8.out.grew HG9.out).grew (Grew.of_kept HK10.out))
            have HHI10 := Lib.hid (show Hand w10 (S2 O9 F8 rc v7) 44 4 (itemsL s'.U).length uI (flat (itemsL s'.U)) from by have h := HHI.out.grew (Grew.of_kept HK10.out); rw [← itemsL_length] at h; exact h)
            have HNE := Lib.hid (show ∀ k, uO.ownBlock = some k → uI.ownBlock ≠ some k from fun k hk e => by have h1 := HHI.out.1.lt e; have h2 := HFO.out k hk; omega)
            have HFI10 := Lib.hid (show ∀ k, uI.ownBlock = some k → w.heap.size ≤ k from fun k hk => by have h1 := HFI.out k hk; have h2 := HP8.out.tri.kept.size; omega)
            have HFO10 := Lib.hid (show ∀ k, uO.ownBlock = some k → w.heap.size ≤ k from fun k hk => by have h1 := HFO.out k hk; have h2 := HP9.out.tri.kept.size; omega)
            have HUL := Lib.hid (show s'.U.length ≤ 62500 by have h1 := usedL_ge s'.U; have h2 := HP10.out.good.used; have h3 := HP10.out.good.b1; omega)
            clear IT ORD HAA8 HAB8 HHA8 HHB8 HG9 HK10 HHI HFI HFO HP8 HP9
            obtain ⟨aoi, cai, rfl, hcai⟩ := (Rd.of_sl HHI10.out.1).shape
            obtain ⟨aoo, cao, rfl, hcao⟩ := (Rd.of_sl HHO.out.1).shape
            have hr : Int.tmod (i : Int) 8 = ((i % 8 : Nat) : Int) := by rw [Int.tmod_eq_emod_of_nonneg (by omega)]; omega
            have hi8 : i % 8 < 8 := Nat.mod_lt _ (by omega)
            go_cut [97] (fun t wx => (∃ b : Bool, t = .bool b) ∧ wx = w10)
            case first =>
              as_aux_lemma =>
                by_cases k8 : i % 8 = 0
                · rw [k8] at hr
                  clear hi8 dk dv d1 hi hlt hca hb0 hb1
                  go_wp2_with fail
                  go_meet
                  case rel => exact ⟨⟨_, rfl⟩, rfl⟩
                · have hne : ¬ ((i % 8 : Nat) : Int) = 0 := by omega
                  clear hi8 dk dv d1 hi hlt hca hb0 hb1
                  go_wp2_with fail
                  go_meet
                  case rel => exact ⟨⟨_, rfl⟩, rfl⟩
            case rest =>
              obtain ⟨⟨b, rfl⟩, hw10⟩ := hcut
              subst hw10
              clear hr hi8
              go_upto_if 97 with fail
              go_cut [] (fun wx => ∃ F R LsT' LsI', PlayC w wx c rc kb O9 F R v7 s' ((i : Int) + 1) LsT' LsI' ∧ LsT'.length ≤ 2 * (i + 1) ∧ LsI'.length ≤ i + 1 ∧ Aside wx (S2 O9 R rc v7) ba (rpO r (.slice aoa r.keys.length caa)) ∧ Aside wx (S2 O9 R rc v7) bb (rpO r (.slice aob r.keys.length cab)) ∧
                Hand wx (S2 O9 R rc v7) 9 1 r.keys.length (.slice aoa r.keys.length caa) (strs r.keys) ∧ Hand wx (S2 O9 R rc v7) 9 1 r.keys.length (.slice aob r.keys.length cab) (strs r.keys) ∧ Hand wx (S2 O9 R rc v7) 44 4 (itemsL s'.U).length (.slice aoi (itemsL s'.U).length cai) (flat (itemsL s'.U)) ∧ Hand wx (S2 O9 R rc v7) 9 1 (keys s'.U).length (.slice aoo (keys s'.U).length cao) (strs (keys s'.U)))
              case first =>
                as_aux_lemma =>
                  cases b with
                  | false =>
                    go_wp2_with fail
                    go_meet
                    case rel => exact ⟨_, _, _, _, HP10.out, by have := HT.out; rw [List.length_append]; simp; omega, by have := HI.out; omega, HAA10.out, HAB10.out, HHA10.out, HHB10.out, HHI10.out.sub HP10.out.fewer, HHO.out.sub HP10.out.fewer⟩
                  | true =>
                    have KI := Lib.hid (HP10.out.keepI HHI10.out HFI10.out (by have := HI.out; omega) (by have := HUL.out; rw [itemsL_length]; omega))
                    go_wp2_with fail
                    refine KI.out.mono ?_
                    rintro e w11 ⟨rfl, F11, R11, hp11, hg11, hu11⟩
                    have HP11 := Lib.hid hp11
                    have HG11 := Lib.hid hg11
                    have HO11 := Lib.hid (hu11 _ _ _ _ _ HHO.out HNE.out)
                    have KT := Lib.hid (hp11.keepT HO11.out HFO10.out (by have := HT.out; rw [List.length_append]; simp; omega) (by have := HUL.out; unfold keys; rw [List.length_map]; omega))
                    have HI11 := Lib.hid ((HHI10.out.sub HP10.out.fewer).grew hg11)
                    clear hp11 hg11 hu11 KI
                    go_wp2_with fail
                    refine KT.out.mono ?_
                    rintro e w12 ⟨rfl, F12, R12, hp12, hg12, hu12⟩
                    have HP12 := Lib.hid hp12
                    have HG12 := Lib.hid hg12
                    clear hp12 hg12 hu12 KT
                    go_wp2_with fail
                    go_meet
                    case rel => exact ⟨_, _, _, _, HP12.out, by have := HT.out; rw [List.length_append, List.length_append]; simp; omega, by have := HI.out; rw [List.length_append]; simp; omega, (HAA10.out.grew HG11.out).grew HG12.out, (HAB10.out.grew HG11.out).grew HG12.out, (HHA10.out.grew HG11.out).grew HG12.out, (HHB10.out.grew HG11.out).grew HG12.out, HI11.out.grew HG12.out, (HO11.out.sub HP11.out.fewer).grew HG12.out⟩
              case rest =>
                obtain ⟨F13, R13, LsT', LsI', hp13, hT13, hI13, haa, hab, hha, hhb, hhi, hho⟩ := hcut
                have HP13 := Lib.hid hp13
                have HT13 := Lib.hid hT13
                have HI13 := Lib.hid hI13
                have CA0 := Lib.hid (show wc.cell? ⟨ba, 0, none⟩ = some (.int .i64 r.errno) from cell_at haa.1 0)
                have CA1 := Lib.hid (show wc.cell? ⟨ba, 1, none⟩ = some (.string r.val) from cell_at haa.1 1)
                have CA2 := Lib.hid (show wc.cell? ⟨ba, 2, none⟩ = some (.int .i64 r.num) from cell_at haa.1 2)
                have CA3 := Lib.hid (show wc.cell? ⟨ba, 3, none⟩ = some (.int .i64 r.ver) from cell_at haa.1 3)
                have CA4 := Lib.hid (show wc.cell? ⟨ba, 4, none⟩ = some (.slice aoa r.keys.length caa) from cell_at haa.1 4)
                have CB0 := Lib.hid (show wc.cell? ⟨bb, 0, none⟩ = some (.int .i64 r.errno) from cell_at hab.1 0)
                have CB1 := Lib.hid (show wc.cell? ⟨bb, 1, none⟩ = some (.string r.val) from cell_at hab.1 1)
                have CB2 := Lib.hid (show wc.cell? ⟨bb, 2, none⟩ = some (.int .i64 r.num) from cell_at hab.1 2)
                have CB3 := Lib.hid (show wc.cell? ⟨bb, 3, none⟩ = some (.int .i64 r.ver) from cell_at hab.1 3)
                have CB4 := Lib.hid (show wc.cell? ⟨bb, 4, none⟩ = some (.slice aob r.keys.length cab) from cell_at hab.1 4)
                obtain ⟨gn, hgn⟩ : ∃ gn, gn = s'.gone := ⟨_, rfl⟩
                obtain ⟨un, hun⟩ : ∃ un, un = usedL s'.U := ⟨_, rfl⟩
                have CG := Lib.hid (show wc.cell? ⟨rc, 3, none⟩ = some (.int .i64 gn) from hgn ▸ hp13.ref.cells.2.2.2)
                have SR := Lib.hid (fun W (hk : Kept (fun _ => False) wc W) => sameReply_true r _ _ W ((Rd.of_sl hha.1).kept hk (fun _ _ h => h)) ((Rd.of_sl hhb.1).kept hk (fun _ _ h => h)) (by have := HKL.out; omega))
                simp only [rpV] at SR
                have RI := Lib.hid (fun W (hk : Kept (fun _ => False) wc W) => items_any (hp13.ref.kept0 hk) (by have := HUL.out; omega))
                have RO := Lib.hid (fun W (hk : Kept (fun _ => False) wc W) => order_any (hp13.ref.kept0 hk) (by have := HUL.out; omega))
                have SI := Lib.hid (fun W (hk : Kept (fun _ => False) wc W) u (hu : Sl W 44 4 (itemsL s'.U).length u (flat (itemsL s'.U))) => sameItems_true _ u (itemsL s'.U) W ((Rd.of_sl hhi.1).kept hk (fun _ _ h => h)) (Rd.of_sl hu) (by have := HUL.out; rw [itemsL_length]; omega))
                have ST := Lib.hid (fun W (hk : Kept (fun _ => False) wc W) u (hu : Sl W 9 1 (keys s'.U).length u (strs (keys s'.U))) => sameTexts_true _ u (keys s'.U) W ((Rd.of_sl hho.1).kept hk (fun _ _ h => h)) (Rd.of_sl hu) (by have := HUL.out; unfold keys; rw [List.length_map]; omega))
                have CU := Lib.hid (fun W (hk : Kept (fun _ => False) wc W) => cused _ _ _ W (hp13.cs.kept0 hk))
                have RU := Lib.hid (fun W (hk : Kept (fun _ => False) wc W) => refC_used (hp13.ref.kept0 hk) (by have h2 := hp13.good.used; have h3 := hp13.good.b1; omega) (fun x hx => by have h1 := hp13.good.keyl x hx; have h2 := hp13.good.vall x hx; omega))
                have CN := Lib.hid (fun W (hk : Kept (fun _ => False) wc W) => cgone _ _ _ W (hp13.cs.kept0 hk))
                rw [← hun] at CU RU
                rw [← hgn] at CN
                have HB := Lib.hid ((Kept.refl (fun _ => False) wc).drew)
                have a0 := HB.out.cell0 CA0.out
                have a1 := HB.out.cell0 CA1.out
                have a2 := HB.out.cell0 CA2.out
                have a3 := HB.out.cell0 CA3.out
                have a4 := HB.out.cell0 CA4.out
                have b0 := HB.out.cell0 CB0.out
                have b1 := HB.out.cell0 CB1.out
                have b2 := HB.out.cell0 CB2.out
                have b3 := HB.out.cell0 CB3.out
                have b4 := HB.out.cell0 CB4.out
                have g3 := HB.out.cell0 CG.out
                have bu : (un != un) = false := by simp
                have bg : (gn != gn) = false := by simp
                clear hp13 hT13 hI13 haa hab hha hhb hhi hho hun hgn HP10 HAA10 HAB10 HHA10 HHB10 HHI10 HHO HNE HFI10 HFO10
                go_upto_region 22 with fail
                go_cut [137] (fun t wx => t = .bool false ∧ Kept (fun _ => False) wc wx)
                case first =>
                  go_region_held3 (fun w' => w'.cell? ⟨ba, 0, none⟩ = some (.int .i64 r.errno) ∧ w'.cell? ⟨ba, 1, none⟩ = some (.string r.val) ∧ w'.cell? ⟨ba, 2, none⟩ = some (.int .i64 r.num) ∧ w'.cell? ⟨ba, 3, none⟩ = some (.int .i64 r.ver) ∧ w'.cell? ⟨ba, 4, none⟩ = some (.slice aoa r.keys.length caa) ∧ w'.cell? ⟨bb, 0, none⟩ = some (.int .i64 r.errno) ∧ w'.cell? ⟨bb, 1, none⟩ = some (.string r.val) ∧ w'.cell? ⟨bb, 2, none⟩ = some (.int .i64 r.num) ∧ w'.cell? ⟨bb, 3, none⟩ = some (.int .i64 r.ver) ∧ w'.cell? ⟨bb, 4, none⟩ = some (.slice aob r.keys.length cab) ∧ w'.cell? ⟨rc, 3, none⟩ = some (.int .i64 gn)) (go_keep)
                    (first
                      | (go_at_call 14; refine (SR.out _ HB.out).mono ?_; rintro e w3 ⟨rfl, hk3⟩; first | (have HB := Lib.hid (HB.out.trans hk3 (fun _ _ h => h)); have a0 := HB.out.cell0 CA0.out; have a1 := HB.out.cell0 CA1.out; have a2 := HB.out.cell0 CA2.out; have a3 := HB.out.cell0 CA3.out; have a4 := HB.out.cell0 CA4.out; have b0 := HB.out.cell0 CB0.out; have b1 := HB.out.cell0 CB1.out; have b2 := HB.out.cell0 CB2.out; have b3 := HB.out.cell0 CB3.out; have b4 := HB.out.cell0 CB4.out; have g3 := HB.out.cell0 CG.out; clear hk3))
                      | (go_at_call 16; refine (RI.out _ HB.out).mono ?_; rintro e w3 ⟨uR, rfl, hs3, hk3, _⟩; first | (have HB := Lib.hid (HB.out.trans hk3 (fun _ _ h => h)); have HSR := Lib.hid hs3; have a0 := HB.out.cell0 CA0.out; have a1 := HB.out.cell0 CA1.out; have a2 := HB.out.cell0 CA2.out; have a3 := HB.out.cell0 CA3.out; have a4 := HB.out.cell0 CA4.out; have b0 := HB.out.cell0 CB0.out; have b1 := HB.out.cell0 CB1.out; have b2 := HB.out.cell0 CB2.out; have b3 := HB.out.cell0 CB3.out; have b4 := HB.out.cell0 CB4.out; have g3 := HB.out.cell0 CG.out; clear hk3 hs3))
                      | (go_at_call 15; refine (SI.out _ HB.out _ HSR.out).mono ?_; rintro e w3 ⟨rfl, q, rfl⟩; first | (have HB := Lib.hid (HB.out.drewN q); have a0 := HB.out.cell0 CA0.out; have a1 := HB.out.cell0 CA1.out; have a2 := HB.out.cell0 CA2.out; have a3 := HB.out.cell0 CA3.out; have a4 := HB.out.cell0 CA4.out; have b0 := HB.out.cell0 CB0.out; have b1 := HB.out.cell0 CB1.out; have b2 := HB.out.cell0 CB2.out; have b3 := HB.out.cell0 CB3.out; have b4 := HB.out.cell0 CB4.out; have g3 := HB.out.cell0 CG.out))
                      | (go_at_call 18; refine (RO.out _ HB.out).mono ?_; rintro e w3 ⟨uT, rfl, hs3, hk3, _⟩; first | (have HB := Lib.hid (HB.out.trans hk3 (fun _ _ h => h)); have HST := Lib.hid hs3; have a0 := HB.out.cell0 CA0.out; have a1 := HB.out.cell0 CA1.out; have a2 := HB.out.cell0 CA2.out; have a3 := HB.out.cell0 CA3.out; have a4 := HB.out.cell0 CA4.out; have b0 := HB.out.cell0 CB0.out; have b1 := HB.out.cell0 CB1.out; have b2 := HB.out.cell0 CB2.out; have b3 := HB.out.cell0 CB3.out; have b4 := HB.out.cell0 CB4.out; have g3 := HB.out.cell0 CG.out; clear hk3 hs3))
                      | (go_at_call 17; refine (ST.out _ HB.out _ HST.out).mono ?_; rintro e w3 ⟨rfl, q, rfl⟩; first | (have HB := Lib.hid (HB.out.drewN q); have a0 := HB.out.cell0 CA0.out; have a1 := HB.out.cell0 CA1.out; have a2 := HB.out.cell0 CA2.out; have a3 := HB.out.cell0 CA3.out; have a4 := HB.out.cell0 CA4.out; have b0 := HB.out.cell0 CB0.out; have b1 := HB.out.cell0 CB1.out; have b2 := HB.out.cell0 CB2.out; have b3 := HB.out.cell0 CB3.out; have b4 := HB.out.cell0 CB4.out; have g3 := HB.out.cell0 CG.out))
                      | (go_at_call 19; refine (CU.out _ HB.out).mono ?_; rintro e w3 ⟨rfl, rfl⟩)
                      | (go_at_call 20; refine (RU.out _ HB.out).mono ?_; rintro e w3 ⟨rfl, hk3⟩; first | (have HB := Lib.hid (HB.out.trans hk3 (fun _ _ h => h)); have a0 := HB.out.cell0 CA0.out; have a1 := HB.out.cell0 CA1.out; have a2 := HB.out.cell0 CA2.out; have a3 := HB.out.cell0 CA3.out; have a4 := HB.out.cell0 CA4.out; have b0 := HB.out.cell0 CB0.out; have b1 := HB.out.cell0 CB1.out; have b2 := HB.out.cell0 CB2.out; have b3 := HB.out.cell0 CB3.out; have b4 := HB.out.cell0 CB4.out; have g3 := HB.out.cell0 CG.out; clear hk3))
                      | (go_at_call 21; refine (CN.out _ HB.out).mono ?_; rintro e w3 ⟨rfl, rfl⟩))
                  all_goals
                    go_wp2_with fail
                    go_meet
                    case rel => exact ⟨rfl, HB.out⟩
                case rest =>
                  obtain ⟨rfl, hk14⟩ := hcut
                  have HP14 := Lib.hid (HP13.out.keep hk14)
                  clear hk14 a0 a1 a2 a3 a4 b0 b1 b2 b3 b4 g3 HB
                  go_wp2_with fail
                  go_roundg (N - i - 1)
                  case measure => omega
                  case rel => exact ⟨i + 1, by omega, by go_num, O9, F13, R13, v7, s', LsT', LsI', by rw [show ((i + 1 : Nat) : Int) = (i : Int) + 1 by omega]; exact HP14.out, by have := HT13.out; omega, by have := HI13.out; omega⟩
    · have HP := Lib.hid hp
      have HT := Lib.hid hT
      have HI := Lib.hid hI
      clear hp hT hI
      go_wp2_with (first
        | (go_at_call 8; refine (nil_doX _).mono ?_; rintro e w5 ⟨rfl, hk5⟩; have HP5 := Lib.hid (HP.out.keep hk5); clear hk5)
        | (go_at_call 11; refine (nil_items _).mono ?_; rintro e w6 ⟨rfl, rfl⟩)
        | (go_at_call 12; refine (nil_order _).mono ?_; rintro e w6 ⟨rfl, rfl⟩)
        | (go_at_call 19; refine (nil_used _).mono ?_; rintro e w6 ⟨rfl, rfl⟩)
        | (go_at_call 21; refine (nil_gone _).mono ?_; rintro e w6 ⟨rfl, rfl⟩)
        | (go_at_call 22; refine (HP5.out.book.apart (by have := HT.out; omega) (by have := HI.out; omega)).mono ?_; rintro e w8 ⟨rfl, hk8⟩; have HK8 := Lib.hid hk8; clear hk8))
      go_ret
      exact ⟨rfl, HP5.out.tri.kept.trans HK8.out (fun k hk hF => by have := HP5.out.tri.new k (.inr (.inr hF)); omega)⟩
end Go.Proofs.YtekcjoogggoijaaGreatDoor
