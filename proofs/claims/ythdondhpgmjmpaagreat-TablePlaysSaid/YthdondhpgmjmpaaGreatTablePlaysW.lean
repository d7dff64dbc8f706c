/-
  The law TablePlays: the walk.
-/
import Derived.Test.YthdondhpgmjmpaaGreatTableNil
import Derived.Test.YthdondhpgmjmpaaGreatTabAlive0
import Derived.Deep.Cut
import Derived.Deep.CutBlock
import Derived.Deep.RegionHeld3
namespace Go.Proofs.YthdondhpgmjmpaaGreat
set_option linter.unusedVariables false
set_option linter.unusedSimpArgs false
set_option linter.unnecessarySimpa false
open Go.RowKit Go.Maps
set_option maxRecDepth 100000

/-- What a round of the law leaves. -/
def RoundT (w wr : World) (b hb kb seed : Nat) (i S : Nat) : Prop := ∃ L O F Ls, PlayT w wr b hb kb seed S L O F Ls ∧ S ≤ 300 ∧ L.length ≤ i ∧ Ls.length ≤ i

set_option maxHeartbeats 16000000 in
theorem tablePlays_walk (seed : Int) (v : Value) (l : List TOp) (ask : ByteArray) (w : World) (h0 : 0 ≤ seed) (h1 : seed ≤ 4294967295) (hask : ask.size ≤ maxLen) (hl : Rd w 5 l.length v (l.flatMap TOp.cells)) :
    Calls Tryz.prog 3 #[.int .u32 seed, v, .string ask] w fun e w' => e = .returned (.bool true) ∧ Kept (fun _ => False) w w' := by
  obtain ⟨s, rfl⟩ : ∃ s : Nat, seed = s := ⟨seed.toNat, by omega⟩
  have hs : s < 4294967296 := by omega
  clear h0 h1
  obtain ⟨ao, cap, rfl, hcap⟩ := hl.shape
  have HL := Lib.hid hl
  clear hl
  obtain ⟨N, hN⟩ : ∃ N, N = l.length := ⟨_, rfl⟩
  rw [← hN] at hcap ⊢
  have HN := Lib.hid hN
  clear hN
  by_cases c1 : (150 : Int) < N
  · go_enter Tryz.func3, Tryz.ntmps3
    go_wp2_with (go_at_call 4; refine (alive_any _).mono ?_; rintro e w1 ⟨rfl, hk1⟩)
    go_ret
    exact ⟨rfl, hk1⟩
  by_cases c2 : (100 : Int) < ask.size
  · go_enter Tryz.func3, Tryz.ntmps3
    go_wp2_with (go_at_call 4; refine (alive_any _).mono ?_; rintro e w1 ⟨rfl, hk1⟩)
    go_ret
    exact ⟨rfl, hk1⟩
  have d1 : N ≤ 150 := by omega
  have d2 : ask.size ≤ 100 := by omega
  clear c1 c2 hask
  go_enter Tryz.func3, Tryz.ntmps3
  go_wp2_with fail
  refine (alive_any _).mono ?_
  rintro e w1 ⟨rfl, hk1⟩
  go_wp2_with fail
  refine (tb_new s _ hs).mono ?_
  rintro e wA ⟨rfl, ht, hkA⟩
  have ST := Lib.hid (fun (w2 : World) h2 => PlayT.start (w2 := w2) hk1 ht hkA h2)
  clear ht hkA hk1
  have hmm := @run_makeMap Tryz.prog
  go_wp2_with fail
  have ST2 := Lib.hid (ST.out _ rfl)
  clear hmm ST
  generalize w1.heap.size = b at *
  generalize hhb : wA.heap.size = hb at *
  clear hhb
  generalize hb + 1 = kb at *
  go_loopg [9, 11] N (fun gk sl k wr => ∃ i : Nat, i + gk = N ∧ k = .int .i64 (i : Int) ∧ ∃ S : Nat, sl = .int .i64 (S : Int) ∧ RoundT w wr b hb kb s i S)
  case atStart => exact ⟨0, by omega, rfl, 8, rfl, [], _, _, [], ST2.out, by omega, by simp, by simp⟩
  case round =>
    clear ST2
    obtain ⟨i, hi, rfl, S, rfl, L, O, F, Ls, hp, hS, hLi, hLs⟩ := hrel
    by_cases hlt : i < N
    · have hil : i < l.length := HN.out ▸ hlt
      obtain ⟨g, off, rfl, z0, z1, z2, z3, z4⟩ := rd_op HL.out i hil
      have ZZ := Lib.hid (And.intro z0 (And.intro z1 (And.intro z2 (And.intro z3 z4))))
      generalize l[i] = op at *
      have x1 := hp.tri.kept.cell0 z1
      have x2 := hp.tri.kept.cell0 z2
      have x3 := hp.tri.kept.cell0 z3
      have x4 := hp.tri.kept.cell0 z4
      obtain ⟨kd, x⟩ := op
      simp only at ZZ x1 x2 x3 x4
      have HP := Lib.hid hp
      clear hp z0 z1 z2 z3 z4
      go_upto_region 13 with fail
      have BX := Boxed.new HP.out #[.string x.key, .string x.val, .int .i64 x.ver, .int .i64 x.til]
      obtain ⟨W1, hW1⟩ : ∃ W1, W1 = wr.alloc (.cells #[.string x.key, .string x.val, .int .i64 x.ver, .int .i64 x.til] 39) := ⟨_, rfl⟩
      obtain ⟨xb, hxb⟩ : ∃ xb, xb = wr.heap.size := ⟨_, rfl⟩
      rw [← hW1, ← hxb] at BX
      rw [← hW1, ← hxb]
      clear hW1 hxb
      obtain ⟨q0, q1, q2, q3⟩ := BX.1.cells
      have BOX := Lib.hid BX.1
      have HP1 := Lib.hid BX.2
      have HKW := Lib.hid BX.2.tri.kept
      clear BX x1 x2 x3 x4 HP
      by_cases ck : (100 : Int) < x.key.size
      · go_wp2_with fail
        refine bodyPost_ret (results_tmp rfl _ _ _) rfl ?_
        exact ⟨rfl, HKW.out⟩
      have dk : x.key.size ≤ 100 := by omega
      clear ck
      obtain ⟨y, was, hgv, his⟩ := got_is L x.key
      have hlk := have_look HP1.out.map x.key (by unfold maxLen; omega)
      rw [hgv] at hlk
      have HIS := Lib.hid his
      clear hgv his
      go_upto_region 16 with fail
      clear hlk q0 q1 q2 q3
      have BX := Boxed.new HP1.out #[.string y.key, .string y.val, .int .i64 y.ver, .int .i64 y.til]
      have BO2 := BOX.out.keep (w' := W1.alloc (.cells #[.string y.key, .string y.val, .int .i64 y.ver, .int .i64 y.til] 39)) ((Kept.refl _ _).alloc _)
      obtain ⟨W2, hW2⟩ : ∃ W2, W2 = W1.alloc (.cells #[.string y.key, .string y.val, .int .i64 y.ver, .int .i64 y.til] 39) := ⟨_, rfl⟩
      obtain ⟨yb, hyb⟩ : ∃ yb, yb = W1.heap.size := ⟨_, rfl⟩
      rw [← hW2, ← hyb] at BX
      rw [← hW2] at BO2
      rw [← hW2, ← hyb]
      clear hW2 hyb
      have HP2 := Lib.hid BX.2
      have x0 := BX.2.tri.kept.cell0 ZZ.out.1
      obtain ⟨q0, q1, q2, q3⟩ := BO2.cells
      have BOX2 := Lib.hid BO2
      clear BX BO2 BOX HP1 HKW
      have HFIT := Lib.hid HP2.out.tab.1
      have HKEY := Lib.hid (skeyOfT (k := x.key) (by unfold maxLen; omega))
      have hb1 : ((!was) == was) = false := by cases was <;> rfl
      have hb2 : (was == was) = true := by cases was <;> rfl
      have hcm : L.length < maxLen := by unfold maxLen; omega
      go_upto_block 2 with fail
      go_cut [] (fun wr => ∃ W S' L' O', W = wr ∧ PlayT w W b hb kb s S' L' O' F Ls ∧ Boxed W xb #[.string x.key, .string x.val, .int .i64 x.ver, .int .i64 x.til] O' F hb ∧ S' ≤ 300 ∧ L'.length ≤ i + 1 ∧ (S < L'.length → S' = 2 * S) ∧ (¬ S < L'.length → S' = S) ∧ L'.length ≤ S')
      case first =>
        as_aux_lemma =>
          by_cases k1 : kd = 1
          case' pos =>
            subst k1
            go_wp2_with fail
            refine (tb_put x HP2.out.tab (by omega) (by omega)).mono ?_
            rintro e w3 ⟨rfl, O', ht, hg⟩
            rw [← HIS.out]
            have BX3 := BOX2.out.grew hg
            obtain ⟨q0, q1, q2, q3⟩ := BX3.cells
            have hm3 := (HP2.out.turn hg ht.lt).1
            have PUT := Lib.hid (fun (w4 : World) c hc hm hk => HP2.out.put (w3 := w4) x ht hg (c := c) hc hm hk)
            have BO3 := Lib.hid BX3
            have HLE := Lib.hid ht.1.le
            clear ht hg BX3
            go_wp2_with (at_mapUpdate; refine wpList_store_mp _ rfl (.tmp 84) (.tmp 86) (.tmp 87) rfl skeyT Tryz.underlying27 rfl hm3 hcm (.string x.key) x.v (.string x.key.data.toList) rfl rfl HKEY.out ?_; intro w4 hmp4 hk4; have HMP4 := Lib.hid hmp4; have HK4 := Lib.hid hk4; clear hmp4 hk4; simp only [Act.put])
            have NP := Lib.hid (show ∃ W S' L' O', W = w4 ∧ PlayT w W b hb kb s S' L' O' F Ls ∧ Boxed W xb #[.string x.key, .string x.val, .int .i64 x.ver, .int .i64 x.til] O' F hb ∧ S' ≤ 300 ∧ L'.length ≤ i + 1 ∧ (S < L'.length → S' = 2 * S) ∧ (¬ S < L'.length → S' = S) ∧ L'.length ≤ S' from
              ⟨_, _, _, _, rfl, PUT.out w4 _ rfl HMP4.out HK4.out, BO3.out.mapped HK4.out, growS_few hS (by rw [putL_len]; split <;> omega), by rw [putL_len]; split <;> omega, fun h => by unfold growS; rw [if_pos h], fun h => by unfold growS; rw [if_neg h], HLE.out⟩)
          case' neg =>
            by_cases k2 : kd = 2
            case' pos =>
              subst k2
              go_wp2_with fail
              refine (tb_del x.key HP2.out.tab (by omega) (by omega)).mono ?_
              rintro e w3 ⟨rfl, O', ht, hg⟩
              rw [← HIS.out]
              have BX3 := BOX2.out.grew hg
              obtain ⟨q0, q1, q2, q3⟩ := BX3.cells
              have hm3 := (HP2.out.turn hg ht.lt).1
              have DEL := Lib.hid (fun (w4 : World) c hc hm hk => HP2.out.del (w3 := w4) x.key ht hg (c := c) hc hm hk)
              have BO3 := Lib.hid BX3
              have HLE := Lib.hid ht.1.le
              clear ht hg BX3
              go_wp2_with (refine wpList_drop_mp _ rfl (.tmp 96) (.tmp 98) rfl skeyT Tryz.underlying27 rfl hm3 (.string x.key) (.string x.key.data.toList) rfl HKEY.out ?_; intro w4 hmp4 hk4; have HMP4 := Lib.hid hmp4; have HK4 := Lib.hid hk4; clear hmp4 hk4; simp only [Act.put])
              have NP := Lib.hid (show ∃ W S' L' O', W = w4 ∧ PlayT w W b hb kb s S' L' O' F Ls ∧ Boxed W xb #[.string x.key, .string x.val, .int .i64 x.ver, .int .i64 x.til] O' F hb ∧ S' ≤ 300 ∧ L'.length ≤ i + 1 ∧ (S < L'.length → S' = 2 * S) ∧ (¬ S < L'.length → S' = S) ∧ L'.length ≤ S' from
                ⟨_, _, _, _, rfl, DEL.out w4 _ rfl HMP4.out HK4.out, BO3.out.mapped HK4.out, hS, by rw [delL_len HFIT.out.nodup]; split <;> omega, fun h => by have := HLE.out; omega, fun _ => rfl, HLE.out⟩)
            case' neg =>
              have NP := Lib.hid (show ∃ W S' L' O', W = W2 ∧ PlayT w W b hb kb s S' L' O' F Ls ∧ Boxed W xb #[.string x.key, .string x.val, .int .i64 x.ver, .int .i64 x.til] O' F hb ∧ S' ≤ 300 ∧ L'.length ≤ i + 1 ∧ (S < L'.length → S' = 2 * S) ∧ (¬ S < L'.length → S' = S) ∧ L'.length ≤ S' from
                ⟨_, _, _, _, rfl, HP2.out, BOX2.out, hS, by omega, fun h => by have := HFIT.out.le; omega, fun _ => rfl, HFIT.out.le⟩)
              go_wp2_with fail
          all_goals
            go_meet
            case rel => exact NP.out
      case rest =>
        obtain ⟨W, S', L', O', rfl, hp', hbx, hS', hL', e1, e2, e3⟩ := hcut
        have hle := hp'.tab.1.le
        have hlen := fun ty => hp'.map.len Tryz.underlying27 ty
        have HP3 := Lib.hid hp'
        have BX3 := Lib.hid hbx
        clear hp' hbx HP2 BOX2 HFIT HKEY hb1 hb2 hcm q0 q1 q2 q3 x0
        go_wp2_with fail
        go_loopg [9] (if S < L'.length then 1 else 0) (fun gj sl wr => wr = W ∧ ∃ y : Nat, sl = .int .i64 (y : Int) ∧ ((gj = 1 ∧ y = S ∧ S < L'.length) ∨ (gj = 0 ∧ y = S')))
        case atStart =>
          refine ⟨rfl, S, rfl, ?_⟩
          by_cases hc : S < L'.length
          · exact .inl ⟨by rw [if_pos hc], rfl, hc⟩
          · exact .inr ⟨by rw [if_neg hc], (e2 hc).symm⟩
        case round =>
          obtain ⟨rfl, y, rfl, ⟨hg1, rfl, hc⟩ | ⟨hg0, rfl⟩⟩ := hrel
          · have e1' := e1 hc
            go_wp2_with fail
            go_roundg 0
            case measure => omega
            case rel => exact ⟨rfl, 2 * y, by go_num, .inr ⟨rfl, by omega⟩⟩
          · clear e1 e2
            obtain ⟨q0, q1, q2, q3⟩ := BX3.out.cells
            go_wp2_with fail
            refine (tb_get x.key HP3.out.tab (by omega) (by omega)).mono ?_
            rintro e w5 ⟨rfl, O5, ht5, hg5⟩
            have hp5 := HP3.out.got ht5 hg5
            have hbx5 := BX3.out.grew hg5
            obtain ⟨y1, is1, hgv, _⟩ := got_is L' x.key
            have HGV := Lib.hid (fun W h => have_look (w := W) (L := L') (hb := hb) (mc := L'.length) h x.key (by unfold maxLen; omega))
            rw [hgv]
            rw [hgv] at HGV
            clear hgv
            clear ht5 hg5 q0 q1 q2 q3 hlen
            go_upto_region 28 with fail
            have BN := Boxed.new hp5 #[.string y1.key, .string y1.val, .int .i64 y1.ver, .int .i64 y1.til]
            have BXa := hbx5.keep (w' := w5.alloc (.cells #[.string y1.key, .string y1.val, .int .i64 y1.ver, .int .i64 y1.til] 39)) ((Kept.refl _ _).alloc _)
            obtain ⟨W6, hW6⟩ : ∃ W6, W6 = w5.alloc (.cells #[.string y1.key, .string y1.val, .int .i64 y1.ver, .int .i64 y1.til] 39) := ⟨_, rfl⟩
            obtain ⟨ab, hab⟩ : ∃ ab, ab = w5.heap.size := ⟨_, rfl⟩
            rw [← hW6, ← hab] at BN
            rw [← hW6] at BXa
            rw [← hW6, ← hab]
            clear hW6 hab
            clear hp5 hbx5
            have hp6 := BN.2
            have bA := BN.1
            clear BN
            go_wp2_with fail
            refine (tb_get ask hp6.tab (by omega) (by omega)).mono ?_
            rintro e w7 ⟨rfl, O7, ht7, hg7⟩
            have hp7 := hp6.got ht7 hg7
            have bX7 := BXa.grew hg7
            have bA7 := bA.grew hg7
            obtain ⟨y2, is2, hgv, _⟩ := got_is L' ask
            have HGW := Lib.hid (fun W h => have_look (w := W) (L := L') (hb := hb) (mc := L'.length) h ask (by unfold maxLen; omega))
            rw [hgv]
            rw [hgv] at HGW
            clear hgv
            clear ht7 hg7 hp6 bA BXa
            go_upto_region 29 with fail
            have BN := Boxed.new hp7 #[.string y2.key, .string y2.val, .int .i64 y2.ver, .int .i64 y2.til]
            have bX7n := bX7.keep (w' := w7.alloc (.cells #[.string y2.key, .string y2.val, .int .i64 y2.ver, .int .i64 y2.til] 39)) ((Kept.refl _ _).alloc _)
            have bA7n := bA7.keep (w' := w7.alloc (.cells #[.string y2.key, .string y2.val, .int .i64 y2.ver, .int .i64 y2.til] 39)) ((Kept.refl _ _).alloc _)
            obtain ⟨W8, hW8⟩ : ∃ W8, W8 = w7.alloc (.cells #[.string y2.key, .string y2.val, .int .i64 y2.ver, .int .i64 y2.til] 39) := ⟨_, rfl⟩
            obtain ⟨bb, hbb⟩ : ∃ bb, bb = w7.heap.size := ⟨_, rfl⟩
            rw [← hW8, ← hbb] at BN
            rw [← hW8] at bX7n bA7n
            rw [← hW8, ← hbb]
            clear hW8 hbb
            have hp8 := BN.2
            have bB8 := BN.1
            obtain ⟨q0, q1, q2, q3⟩ := bX7n.cells
            have hlk := HGV.out _ hp8.map
            clear BN hp7 bX7 bA7
            go_upto_region 30 with fail
            clear hlk q0 q1 q2 q3
            have BN := Boxed.new hp8 #[.string y1.key, .string y1.val, .int .i64 y1.ver, .int .i64 y1.til]
            have bX7nn := bX7n.keep (w' := W8.alloc (.cells #[.string y1.key, .string y1.val, .int .i64 y1.ver, .int .i64 y1.til] 39)) ((Kept.refl _ _).alloc _)
            have bA7nn := bA7n.keep (w' := W8.alloc (.cells #[.string y1.key, .string y1.val, .int .i64 y1.ver, .int .i64 y1.til] 39)) ((Kept.refl _ _).alloc _)
            have bB8n := bB8.keep (w' := W8.alloc (.cells #[.string y1.key, .string y1.val, .int .i64 y1.ver, .int .i64 y1.til] 39)) ((Kept.refl _ _).alloc _)
            obtain ⟨W9, hW9⟩ : ∃ W9, W9 = W8.alloc (.cells #[.string y1.key, .string y1.val, .int .i64 y1.ver, .int .i64 y1.til] 39) := ⟨_, rfl⟩
            obtain ⟨wb, hwb⟩ : ∃ wb, wb = W8.heap.size := ⟨_, rfl⟩
            rw [← hW9, ← hwb] at BN
            rw [← hW9] at bX7nn bA7nn bB8n
            rw [← hW9, ← hwb]
            clear hW9 hwb
            have hp9 := BN.2
            have bW9 := BN.1
            have hlk := HGW.out _ hp9.map
            clear BN hp8 bX7n bA7n bB8
            go_upto_region 31 with fail
            clear hlk
            have BN := Boxed.new hp9 #[.string y2.key, .string y2.val, .int .i64 y2.ver, .int .i64 y2.til]
            have bX7nnn := bX7nn.keep (w' := W9.alloc (.cells #[.string y2.key, .string y2.val, .int .i64 y2.ver, .int .i64 y2.til] 39)) ((Kept.refl _ _).alloc _)
            have bA7nnn := bA7nn.keep (w' := W9.alloc (.cells #[.string y2.key, .string y2.val, .int .i64 y2.ver, .int .i64 y2.til] 39)) ((Kept.refl _ _).alloc _)
            have bB8nn := bB8n.keep (w' := W9.alloc (.cells #[.string y2.key, .string y2.val, .int .i64 y2.ver, .int .i64 y2.til] 39)) ((Kept.refl _ _).alloc _)
            have bW9n := bW9.keep (w' := W9.alloc (.cells #[.string y2.key, .string y2.val, .int .i64 y2.ver, .int .i64 y2.til] 39)) ((Kept.refl _ _).alloc _)
            obtain ⟨W10, hW10⟩ : ∃ W10, W10 = W9.alloc (.cells #[.string y2.key, .string y2.val, .int .i64 y2.ver, .int .i64 y2.til] 39) := ⟨_, rfl⟩
            obtain ⟨vb, hvb⟩ : ∃ vb, vb = W9.heap.size := ⟨_, rfl⟩
            rw [← hW10, ← hvb] at BN
            rw [← hW10] at bX7nnn bA7nnn bB8nn bW9n
            rw [← hW10, ← hvb]
            clear hW10 hvb
            have hp10 := BN.2
            have bV10 := BN.1
            clear BN hp9 bX7nn bA7nn bB8n bW9
            have HP10 := Lib.hid hp10
            have BXX := Lib.hid bX7nnn
            have BAA := Lib.hid bA7nnn
            have BBB := Lib.hid bB8nn
            have BWW := Lib.hid bW9n
            have BVV := Lib.hid bV10
            clear hp10 bX7nnn bA7nnn bB8nn bW9n bV10 HGV HGW HP3 BX3
            obtain ⟨xp0, xp1, xp2, xp3⟩ := BXX.out.cells
            obtain ⟨ap0, ap1, ap2, ap3⟩ := BAA.out.cells
            obtain ⟨wp0, wp1, wp2, wp3⟩ := BWW.out.cells
            obtain ⟨bp0, bp1, bp2, bp3⟩ := BBB.out.cells
            obtain ⟨vp0, vp1, vp2, vp3⟩ := BVV.out.cells
            have hlen := fun ty => (HP10.out.keep ((Kept.refl (fun _ => False) W10).drew)).map.len Tryz.underlying27 ty
            have HSH := Lib.hid (fun W => hash_any x.key s W hs (by omega))
            have RSH := Lib.hid (fun W => refHash_any x.key s W hs (by omega))
            obtain ⟨hv, hhv⟩ : ∃ hv, hv = hashN x.key s := ⟨_, rfl⟩
            rw [← hhv] at HSH RSH
            clear hhv
            go_cut [172] (fun r wr => r = .bool false ∧ ∃ O11, PlayT w wr b hb kb s y L' O11 F Ls)
            case first =>
              as_aux_lemma =>
                go_region_held3 (fun w' => w'.cell? ⟨xb, 0, none⟩ = some (.string x.key) ∧ w'.cell? ⟨xb, 1, none⟩ = some (.string x.val) ∧ w'.cell? ⟨xb, 2, none⟩ = some (.int .i64 x.ver) ∧ w'.cell? ⟨xb, 3, none⟩ = some (.int .i64 x.til) ∧ w'.cell? ⟨ab, 0, none⟩ = some (.string y1.key) ∧ w'.cell? ⟨ab, 1, none⟩ = some (.string y1.val) ∧ w'.cell? ⟨ab, 2, none⟩ = some (.int .i64 y1.ver) ∧ w'.cell? ⟨ab, 3, none⟩ = some (.int .i64 y1.til) ∧ w'.cell? ⟨wb, 0, none⟩ = some (.string y1.key) ∧ w'.cell? ⟨wb, 1, none⟩ = some (.string y1.val) ∧ w'.cell? ⟨wb, 2, none⟩ = some (.int .i64 y1.ver) ∧ w'.cell? ⟨wb, 3, none⟩ = some (.int .i64 y1.til) ∧ w'.cell? ⟨bb, 0, none⟩ = some (.string y2.key) ∧ w'.cell? ⟨bb, 1, none⟩ = some (.string y2.val) ∧ w'.cell? ⟨bb, 2, none⟩ = some (.int .i64 y2.ver) ∧ w'.cell? ⟨bb, 3, none⟩ = some (.int .i64 y2.til) ∧ w'.cell? ⟨vb, 0, none⟩ = some (.string y2.key) ∧ w'.cell? ⟨vb, 1, none⟩ = some (.string y2.val) ∧ w'.cell? ⟨vb, 2, none⟩ = some (.int .i64 y2.ver) ∧ w'.cell? ⟨vb, 3, none⟩ = some (.int .i64 y2.til) ∧ (∀ ty, (Builtin.len_ #[27] ty #[.map (some hb)]).run Tryz.prog w' = .ok (.int .i64 (L'.length : Nat)) w')) (go_keep)
                  (first
                    | (go_at_call 9; refine (tb_len ((HP10.out.keep ((Kept.refl (fun _ => False) W10).drew)).tab)).mono ?_; rintro e w11 ⟨rfl, rfl⟩)
                    | (go_at_call 10; refine (tb_slots ((HP10.out.keep ((Kept.refl (fun _ => False) W10).drew)).tab)).mono ?_; rintro e w11 ⟨rfl, O11, ht11, hg11⟩; have HP11 := Lib.hid ((HP10.out.keep ((Kept.refl (fun _ => False) W10).drew)).got ht11 hg11); have BXX1 := Lib.hid ((BXX.out.keep ((Kept.refl (fun _ => False) W10).drew)).grew hg11); have BAA1 := Lib.hid ((BAA.out.keep ((Kept.refl (fun _ => False) W10).drew)).grew hg11); have BWW1 := Lib.hid ((BWW.out.keep ((Kept.refl (fun _ => False) W10).drew)).grew hg11); have BBB1 := Lib.hid ((BBB.out.keep ((Kept.refl (fun _ => False) W10).drew)).grew hg11); have BVV1 := Lib.hid ((BVV.out.keep ((Kept.refl (fun _ => False) W10).drew)).grew hg11); obtain ⟨xq0, xq1, xq2, xq3⟩ := BXX1.out.cells; obtain ⟨aq0, aq1, aq2, aq3⟩ := BAA1.out.cells; obtain ⟨wq0, wq1, wq2, wq3⟩ := BWW1.out.cells; obtain ⟨bq0, bq1, bq2, bq3⟩ := BBB1.out.cells; obtain ⟨vq0, vq1, vq2, vq3⟩ := BVV1.out.cells; have hlen1 := fun ty => HP11.out.map.len Tryz.underlying27 ty; clear ht11 hg11)
                    | (go_at_call 11; refine (HSH.out _).mono ?_; rintro e w12 ⟨rfl, rfl⟩)
                    | (go_at_call 12; refine (RSH.out _).mono ?_; rintro e w12 ⟨rfl, rfl⟩))
                go_wp2_with fail
                go_meet
                case rel => exact ⟨rfl, O11, HP11.out⟩
            case rest =>
              obtain ⟨rfl, O11, hp⟩ := hcut
              obtain ⟨W11, hW11⟩ : ∃ W11, W11 = wc := ⟨_, rfl⟩
              rw [← hW11] at hp
              have HP11 := Lib.hid hp
              clear hp hlen xp0 xp1 xp2 xp3 ap0 ap1 ap2 ap3 wp0 wp1 wp2 wp3 bp0 bp1 bp2 bp3 vp0 vp1 vp2 vp3 HSH RSH BXX BAA BBB BWW BVV HP10
              have hr : Int.tmod (i : Int) 10 = ((i % 10 : Nat) : Int) := by rw [Int.tmod_eq_emod_of_nonneg (by omega)]; omega
              have hi10 : i % 10 < 10 := Nat.mod_lt _ (by omega)
              go_upto_region 33 with fail
              go_cut [182] (fun r wx => (∃ kp : Bool, r = .bool kp) ∧ wx = W11)
              case first =>
                as_aux_lemma =>
                  by_cases k9 : i % 10 = 9
                  · rw [k9] at hr
                    clear hi10 hS hLi hLs hS' hL' hle e3 dk d1 d2 hs hcap hi hlt
                    go_wp2_with fail
                    go_meet
                    case rel => exact ⟨⟨_, rfl⟩, hW11.symm⟩
                  · have hN0 : (-9223372036854775808 : Int) ≤ (N : Int) - 1 ∧ (N : Int) - 1 ≤ 9223372036854775807 := by omega
                    have hne : ¬ ((i % 10 : Nat) : Int) = 9 := by omega
                    have hN1 : wrap64 ((N : Int) - 1) = (N : Int) - 1 := IntWalk.wrap64_in _ hN0
                    have hN2 : IntKind.i64.wrap ((N : Int) - 1) = (N : Int) - 1 := IntWalk.i64_in _ hN0
                    clear hN0 hi10 hS hLi hLs hS' hL' hle e3 dk d1 d2 hs hcap hi hlt
                    go_wp2_with fail
                    go_meet
                    case rel => exact ⟨⟨_, rfl⟩, hW11.symm⟩
              case rest =>
                obtain ⟨⟨kp, rfl⟩, hwx⟩ := hcut
                clear hr hi10 hW11
                subst hwx
                cases kp with
                | false =>
                  go_wp2_with fail
                  go_roundg (N - i - 1)
                  case measure => omega
                  case rel => exact ⟨i + 1, by omega, by go_num, y, rfl, L', O11, F, Ls, HP11.out, hS', hL', by omega⟩
                | true =>
                  obtain ⟨K, hK⟩ : ∃ K, K = sortB (keys L') := ⟨_, rfl⟩
                  have KL := Lib.hid (show K.length = L'.length by rw [hK, sortB_length]; unfold keys; rw [List.length_map])
                  have KEYS := Lib.hid (tb_keys HP11.out.tab (by omega))
                  have LESS := Lib.hid (show ∀ (j : Nat) (x y : ByteArray), 0 < j → K[j - 1]? = some x → K[j]? = some y → Op.bytesLess x.toList y.toList = true from fun j x y h0 hx hy => by
                    subst hK
                    obtain ⟨h1, rfl⟩ := List.getElem?_eq_some_iff.1 hx
                    obtain ⟨h2, rfl⟩ := List.getElem?_eq_some_iff.1 hy
                    exact key_less HP11.out.tab.1.nodup h0 h2)
                  have THERE := Lib.hid (show ∀ (j : Nat) (k : ByteArray), K[j]? = some k → hasB L' k = true ∧ k.size ≤ 1000000000 from fun j k h => by
                    subst hK
                    have hm := (sortB_perm (keys L')).mem_iff.1 (List.mem_of_getElem? h)
                    refine ⟨by rw [hasB_mem]; exact hm, ?_⟩
                    obtain ⟨z, hz, e⟩ := List.mem_map.1 hm
                    rw [← e]
                    exact HP11.out.tab.1.sizes z hz)
                  unfold KeysSaid at KEYS
                  rw [← hK] at KEYS
                  clear hK
                  go_wp2_with fail
                  refine KEYS.out.mono ?_
                  rintro e w12 ⟨u, rfl, hu⟩
                  have HU := Lib.hid hu
                  have HP12 := Lib.hid (HP11.out.keep hu.2.1)
                  have hnF : ∀ k, u.ownBlock = some k → ¬ F k := fun k hk e => by
                    have := HP11.out.tri.lt k (.inr (.inr e))
                    have := hu.2.2 k hk
                    omega
                  have HNF := Lib.hid hnF
                  obtain ⟨aou, cau, rfl, _⟩ := (Rd.of_sl hu.1).shape
                  have KEEP := Lib.hid (HP12.out.book.keepTexts _ K hu.1 hnF (by omega) (by have := KL.out; omega))
                  clear hu hnF KEYS
                  go_wp2_with fail
                  refine KEEP.out.mono ?_
                  rintro e w13 ⟨rfl, F', hbk, hkF, hF'⟩
                  have HP13 := Lib.hid (HP11.out.one HU.out.2.1 HU.out.2.2 hbk hkF hF')
                  have RU := Lib.hid (show Rd w13 1 K.length (.slice aou K.length cau) (K.map Value.string) from (Rd.of_sl HU.out.1).kept hkF HNF.out)
                  have hlen := fun ty => HP13.out.map.len Tryz.underlying27 ty
                  clear hbk hkF hF' KEEP
                  obtain ⟨M, hM⟩ : ∃ M, M = K.length := ⟨_, rfl⟩
                  have hML : M = L'.length := by rw [hM, KL.out]
                  rw [← hM] at RU HU ⊢
                  rw [← hML] at hlen
                  have HM := Lib.hid hM
                  have hM150 : M ≤ 150 := by omega
                  clear hM hML
                  go_wp2_with fail
                  go_loopg [24] M (fun gj k wx => ∃ j : Nat, j + gj = M ∧ k = .int .i64 (j : Int) ∧ Kept (fun _ => False) w13 wx)
                  case atStart => exact ⟨0, by omega, rfl, Kept.refl _ _⟩
                  case round =>
                    obtain ⟨j, hj, rfl, hkj⟩ := hrel
                    clear hlen
                    by_cases hjM : j < M
                    · have hjK : j < K.length := HM.out ▸ hjM
                      obtain ⟨kj, hKj⟩ : ∃ kj, K[j]? = some kj := ⟨_, List.getElem?_eq_getElem hjK⟩
                      obtain ⟨hth, hsz⟩ := THERE.out j kj hKj
                      obtain ⟨_, _, hc⟩ := (RU.out.kept hkj (fun _ _ h => h)).at
                      obtain ⟨gu, ou, rfl, c0⟩ := hc j (.string kj) (by rw [List.getElem?_map, hKj]; rfl)
                      obtain ⟨yk, isk, hgv, hisk⟩ := got_is L' kj
                      have hlk := have_look ((HP13.out.keep hkj).map) kj (by unfold maxLen; omega)
                      rw [hgv, hisk, hth] at hlk
                      have HC := Lib.hid (show ∀ (t : Nat) (z : ByteArray), K[t]? = some z → wr.cell? ⟨gu, ou + t, none⟩ = some (.string z) from fun t z hz => by
                        obtain ⟨g', o', e, c⟩ := hc t (.string z) (by rw [List.getElem?_map, hz]; rfl)
                        injection e with e
                        injection e with e1 e2
                        rw [e1, e2]
                        exact c)
                      have HKj := Lib.hid hKj
                      have HKJ := Lib.hid hkj
                      have HSZ := Lib.hid hjK
                      clear hc hth hKj hkj hgv hisk hsz hjK
                      go_upto_region 42 with fail
                      clear hlk c0
                      obtain ⟨W14, hW14⟩ : ∃ W14, W14 = wr.alloc (.cells #[.string yk.key, .string yk.val, .int .i64 yk.ver, .int .i64 yk.til] 39) := ⟨_, rfl⟩
                      have hka : Kept (fun _ => False) wr W14 := by rw [hW14]; exact (Kept.refl _ _).alloc _
                      rw [← hW14]
                      clear hW14
                      have c0 := hka.cell0 (HC.out j kj HKj.out)
                      have HKA := Lib.hid (HKJ.out.trans hka (fun _ _ h => h))
                      rcases j with _ | j'
                      · clear hka
                        go_wp2_with fail
                        go_region
                        go_wp2_with fail
                        go_roundg (gk - 1)
                        case measure => omega
                        case rel => exact ⟨1, by omega, by go_num, HKA.out.drew⟩
                      · obtain ⟨kj', hKj'⟩ : ∃ kj', K[j']? = some kj' := ⟨_, List.getElem?_eq_getElem (by have := HSZ.out; omega)⟩
                        have hless := LESS.out (j' + 1) kj' kj (by omega) hKj' HKj.out
                        have c1 := hka.cell0 (HC.out j' kj' hKj')
                        clear hka hKj' hS hLi hLs hS' hL' hle e3 dk d1 d2 hs hcap hi hlt
                        go_wp2_with fail
                        go_region
                        go_wp2_with fail
                        go_roundg (gk - 1)
                        case measure => omega
                        case rel => exact ⟨j' + 1 + 1, by omega, by go_num, HKA.out.drew⟩
                    · have HKJ := Lib.hid hkj
                      clear hkj
                      go_wp2_with fail
                      go_roundg (N - i - 1)
                      case measure => omega
                      case rel => exact ⟨i + 1, by omega, by go_num, y, rfl, L', O11, F', Ls ++ [K], HP13.out.keep HKJ.out, hS', hL', by rw [List.length_append]; simp; omega⟩
    · have HP := Lib.hid hp
      clear hp
      go_wp2_with fail
      refine (get_nil _ _).mono ?_
      rintro e w4 ⟨rfl, hk4⟩
      have HP4 := Lib.hid (HP.out.keep hk4)
      clear hk4
      go_wp2_with (first
        | (go_at_call 6; refine (put_nil _ _).mono ?_; rintro e w5 ⟨rfl, hk5⟩; have HP5 := Lib.hid ((HP4.out.keep ((Kept.refl (fun _ => False) w4).alloc _)).keep hk5); clear hk5)
        | (go_at_call 7; refine (del_nil _ _).mono ?_; rintro e w6 ⟨rfl, hk6⟩; have HP6 := Lib.hid (HP5.out.keep hk6); clear hk6)
        | (go_at_call 9; refine (len_nil _).mono ?_; rintro e w7 ⟨rfl, rfl⟩)
        | (go_at_call 10; refine (slots_nil _).mono ?_; rintro e w7 ⟨rfl, rfl⟩)
        | (go_at_call 13; refine (keys_nil _).mono ?_; rintro e w7 ⟨rfl, rfl⟩)
        | (go_at_call 15; refine (HP6.out.book.apart (by omega)).mono ?_; rintro e w8 ⟨rfl, hk8⟩; have HK8 := Lib.hid hk8; clear hk8))
      go_ret
      exact ⟨rfl, HP6.out.tri.kept.trans HK8.out (fun k hk hF => by have := HP6.out.tri.new k (.inr (.inr hF)); omega)⟩
end Go.Proofs.YthdondhpgmjmpaaGreat
