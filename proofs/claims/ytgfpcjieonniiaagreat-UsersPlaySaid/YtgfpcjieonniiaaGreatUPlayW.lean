/-
  The law UsersPlay: the walk.
-/
import Derived.Test.YtgfpcjieonniiaaGreatUPlay
import Derived.Test.YtgfpcjieonniiaaGreatUPlayArg
import Derived.Deep.Cut
import Derived.Deep.CutBlock
import Derived.Deep.RegionHeld3
namespace Go.Proofs.YtgfpcjieonniiaaGreat
set_option linter.unusedVariables false
set_option linter.unusedSimpArgs false
set_option linter.unnecessarySimpa false
open Go.RowKit Go.Maps
set_option maxRecDepth 100000

set_option maxHeartbeats 16000000 in
theorem usersPlay_walk (v0 v2 : Value) (l : List (ByteArray × ByteArray)) (raw : Bool) (ops : List UOp) (ask : Int) (w : World) (hl : Rd w 2 l.length v0 (l.flatMap userCells)) (hls : ∀ x ∈ l, x.1.size ≤ maxLen ∧ x.2.size ≤ maxLen)
    (ho : Rd w 3 ops.length v2 (ops.flatMap UOp.cells)) (hos : ∀ o ∈ ops, -9223372036854775808 ≤ o.now ∧ o.now ≤ 9223372036854775807 ∧ o.name.size ≤ maxLen) :
    Calls Tryz.prog 3 #[v0, .bool raw, v2, .int .i64 ask] w fun e w' => e = .returned (.bool true) ∧ Kept (fun _ => False) w w' := by
  obtain ⟨ao, ca, rfl, hca⟩ := hl.shape
  obtain ⟨co, cc, rfl, hcc⟩ := ho.shape
  have HL := Lib.hid hl
  have HLS := Lib.hid hls
  have HO := Lib.hid ho
  have HOS := Lib.hid hos
  clear hl hls ho hos
  obtain ⟨N, hN⟩ : ∃ N, N = l.length := ⟨_, rfl⟩
  obtain ⟨M, hM⟩ : ∃ M, M = ops.length := ⟨_, rfl⟩
  rw [← hN] at hca ⊢
  rw [← hM] at hcc ⊢
  have HN := Lib.hid hN
  have HM := Lib.hid hM
  clear hN hM
  by_cases c1 : (40 : Int) < N
  · go_enter Tryz.func3, Tryz.ntmps3
    go_wp2_with (go_at_call 4; refine (alive_any _).mono ?_; rintro e w1 ⟨rfl, hk1⟩)
    go_ret
    exact ⟨rfl, hk1⟩
  by_cases c2 : (100 : Int) < M
  · go_enter Tryz.func3, Tryz.ntmps3
    go_wp2_with (go_at_call 4; refine (alive_any _).mono ?_; rintro e w1 ⟨rfl, hk1⟩)
    go_ret
    exact ⟨rfl, hk1⟩
  have d1 : N ≤ 40 := by omega
  have d2 : M ≤ 100 := by omega
  clear c1 c2
  go_enter Tryz.func3, Tryz.ntmps3
  go_wp2_with fail
  refine (alive_any _).mono ?_
  rintro e w1 ⟨rfl, hk1⟩
  have HK1 := Lib.hid hk1
  clear hk1
  go_upto_if 39 with fail
  go_cut [0] (fun v wr => ∃ (l' : List (ByteArray × ByteArray)) (ao : Option Addr) (ca : Nat), v = .slice ao N ca ∧ N ≤ ca ∧ Rd wr 2 l'.length (.slice ao N ca) (l'.flatMap userCells) ∧ l'.length = N ∧ (∀ x ∈ l', x.1.size ≤ maxLen ∧ x.2.size ≤ maxLen) ∧ Kept (fun _ => False) w wr)
  case first =>
    have RDL := Lib.hid (show Rd w1 2 l.length (.slice ao N ca) (l.flatMap userCells) by rw [HN.out]; exact HL.out.kept HK1.out (fun _ _ h => h))
    cases raw with
    | true =>
      go_wp2_with fail
      go_meet
      case rel => exact ⟨l, ao, ca, rfl, hca, RDL.out, HN.out.symm, HLS.out, HK1.out⟩
    | false =>
      have TID := Lib.hid (tidy_any (.slice ao N ca) l w1 RDL.out (by have := HN.out; omega) HLS.out)
      go_wp2_with fail
      refine TID.out.mono ?_
      rintro e w2 ⟨u, rfl, hu⟩
      have hlen : (tidyL l).length = N := by rw [tidyL_length, HN.out]
      obtain ⟨ao', ca', rfl, hca'⟩ := (Rd.of_sl hu.1).shape
      rw [hlen] at hca'
      have HU := Lib.hid (show Rd w2 2 (tidyL l).length (.slice ao' N ca') ((tidyL l).flatMap userCells) by have := Rd.of_sl hu.1; rw [hlen] at this ⊢; exact this)
      have HK2 := Lib.hid (HK1.out.trans hu.2.1 (fun _ _ h => h))
      have HSZ := Lib.hid (show ∀ x ∈ tidyL l, x.1.size ≤ maxLen ∧ x.2.size ≤ maxLen from fun x hx => by
        obtain ⟨y, hy, rfl⟩ := List.mem_map.1 hx
        refine ⟨(HLS.out y hy).1, ?_⟩
        rw [fillB_size]
        unfold maxLen
        omega)
      have HLEN := Lib.hid hlen
      clear hu
      rw [hlen]
      clear hlen
      go_wp2_with fail
      go_meet
      case rel => exact ⟨tidyL l, ao', ca', rfl, hca', HU.out, HLEN.out, HSZ.out, HK2.out⟩
  case rest =>
    clear HL HLS hca HN HK1
    obtain ⟨l', ao', ca', rfl, hca', hrd, hlen, hsz, hkc⟩ := hcut
    have hN := hlen.symm
    have HRD := Lib.hid hrd
    have HLEN := Lib.hid hN
    have HSZ := Lib.hid hsz
    have HKC := Lib.hid hkc
    clear hrd hlen hsz hkc hN
    have NEW := Lib.hid (new_any (.slice ao' N ca') l' wc HRD.out)
    go_wp2_with fail
    refine NEW.out.mono ?_
    rintro e wA hres
    obtain ⟨pv, ev, rfl, hkA, hval⟩ : ∃ (pv : Value) (ev : Int), e = .returned (.tuple #[pv, .int .i64 ev]) ∧ Kept (fun _ => False) wc wA ∧ ((validB l' = false ∧ pv = .pointer none ∧ ev = 1) ∨ (validB l' = true ∧ ev = 0 ∧ ∃ b m L, pv = .pointer (some ⟨b, 0, none⟩) ∧ UsersAt wA b m L ∧ Made wc.heap.size l' L ∧ wc.heap.size ≤ b ∧ wc.heap.size ≤ m)) := by
      obtain ⟨h1, h2⟩ := hres
      cases hv : validB l' with
      | true =>
        rw [hv] at h2
        obtain ⟨b, m, L, he, h⟩ := h2
        exact ⟨_, _, he, h1, .inr ⟨rfl, rfl, b, m, L, rfl, h⟩⟩
      | false =>
        rw [hv] at h2
        exact ⟨_, _, h2, h1, .inl ⟨rfl, rfl, rfl⟩⟩
    have HVAL := Lib.hid hval
    have HKA := Lib.hid hkA
    clear hval hkA hres NEW
    go_wp2_with fail
    go_loopg [11] N (fun gk k wr => ∃ i : Nat, i + gk = N ∧ k = .int .i64 (i : Int) ∧ Kept (fun _ => False) wA wr)
    case atStart => exact ⟨0, by omega, rfl, Kept.refl _ _⟩
    case round =>
      obtain ⟨i, hi, rfl, hk⟩ := hrel
      by_cases hlt : i < N
      · have hil : i < l'.length := HLEN.out ▸ hlt
        obtain ⟨g, off, rfl, x0, x1⟩ := rd_user (HRD.out.kept (HKA.out.trans hk (fun _ _ h => h)) (fun _ _ h => h)) rfl i hil
        have hsx := HSZ.out _ (List.getElem_mem hil)
        generalize l'[i] = u at *
        obtain ⟨nm, sc⟩ := u
        simp only at x0 x1 hsx
        have X0 := Lib.hid x0
        have X1 := Lib.hid x1
        have RIGHT := Lib.hid (fun W => right_any nm sc W)
        have USER := Lib.hid (fun W => refUser_any nm sc W hsx.1 hsx.2)
        obtain ⟨r, hr⟩ : ∃ r, r = rightB nm sc := ⟨_, rfl⟩
        rw [← hr] at RIGHT USER
        have hb1 : (r == r) = true := by cases r <;> rfl
        have HK := Lib.hid hk
        have HB := Lib.hid ((Kept.refl (fun _ => False) wr).drew)
        clear hr hsx hk
        go_wp2_with fail
        go_region_held3 (fun w' => w'.cell? ⟨g, off + i * 2, none⟩ = some (.string nm) ∧ w'.cell? ⟨g, off + i * 2 + 1, none⟩ = some (.string sc)) (go_keep)
          (first
            | (go_at_call 7; refine (RIGHT.out _).mono ?_; rintro e w3 ⟨rfl, hk3⟩; first | (have HB := Lib.hid (HB.out.trans hk3 (fun _ _ h => h)); have x0 := HB.out.cell0 X0.out; have x1 := HB.out.cell0 X1.out; clear hk3))
            | (go_at_call 8; refine (USER.out _).mono ?_; rintro e w3 ⟨rfl, hk3⟩; first | (have HB := Lib.hid (HB.out.trans hk3 (fun _ _ h => h)); have x0 := HB.out.cell0 X0.out; have x1 := HB.out.cell0 X1.out; clear hk3)))
        all_goals
          go_wp2_with fail
          go_roundg (gk - 1)
          case measure => omega
          case rel => exact ⟨i + 1, by omega, by go_num, HK.out.trans HB.out (fun _ _ h => h)⟩
      · have HK := Lib.hid hk
        clear hk
        have VAL := Lib.hid (refUsers_any (.slice ao' N ca') l' wr (HRD.out.kept (HKA.out.trans HK.out (fun _ _ h => h)) (fun _ _ h => h)) (by have := HLEN.out; omega) HSZ.out)
        go_wp2_with fail
        refine VAL.out.mono ?_
        rintro e w3 ⟨rfl, hk3⟩
        have HK3 := Lib.hid (HK.out.trans hk3 (fun _ _ h => h))
        clear hk3 VAL
        rcases HVAL.out with ⟨hv, rfl, rfl⟩ | ⟨hv, rfl, b, m, L, rfl, hu, hm, hb, hmm⟩
        · rw [hv]
          go_wp2_with fail
          go_ret
          exact ⟨rfl, (HKC.out.trans HKA.out (fun _ _ h => h)).trans HK3.out (fun _ _ h => h)⟩
        · rw [hv]
          have h20 : l'.length ≤ 20 := by unfold validB at hv; simp at hv; exact hv.1.1
          obtain ⟨hLl, hUN, hok⟩ := unfailed_of_made hm
          have hLN : L.length = N := hLl.trans HLEN.out.symm
          have NSZ := Lib.hid (show ∀ x ∈ L, x.name.size ≤ maxLen from fun x hx => by
            have : (x.name, x.secret) ∈ l' := by rw [← hm.1]; exact List.mem_map.2 ⟨x, hx, rfl⟩
            exact (HSZ.out _ this).1)
          have OWN := Lib.hid ((own_of_new HKC.out HKA.out hu hm hb hmm).kept HK3.out)
          have BOOKS := Lib.hid (books_all (.slice ao' N ca') l' w3 (HRD.out.kept (HKA.out.trans HK3.out (fun _ _ h => h)) (fun _ _ h => h)) (by omega) L hLl hUN)
          have OK := Lib.hid hok
          have HLN := Lib.hid hLN
          have hN20 : N ≤ 20 := by omega
          clear hu hm hb hmm hv hLl hUN hok hLN h20 HVAL
          go_wp2_with fail
          refine BOOKS.out.mono ?_
          rintro e w4 ⟨rb, G, vL, vF, vU, vK, rfl, hr, hk4, hG⟩
          have ST := Lib.hid (fun w2 h2 => PlayU.start (w2 := w2) OWN.out hr hk4 hG OK.out (by rw [HLN.out]; exact hN20) h2)
          clear hr hk4 hG BOOKS OWN OK
          go_wp2_with fail
          have P0 := Lib.hid (ST.out _ rfl)
          clear ST
          unfold bookArr at P0
          generalize w4.heap.size = kb at *
          generalize (fun k => k = kb) = F at *
          generalize (w4.alloc _) = w5 at *
          have NAMES := Lib.hid P0.out.names
          rw [HLN.out] at NAMES
          refine NAMES.out.mono ?_
          rintro e w6 ⟨ao1, ca1, rfl, s1, k1, o1⟩
          have KB := Lib.hid (P0.out.keepBook (ao := ao1) (ca := ca1) (by rw [HLN.out]; exact s1) k1 (by rw [HLN.out]; exact o1) (by simp))
          rw [HLN.out] at KB
          clear s1 k1 o1 NAMES
          go_wp2_with fail
          refine KB.out.mono ?_
          rintro e w7 ⟨rfl, F1, Ls1, hp1, hl1⟩
          have P1 := Lib.hid hp1
          have HL1 := Lib.hid hl1
          clear hp1 hl1 KB P0
          have NAMES := Lib.hid P1.out.names
          rw [HLN.out] at NAMES
          go_wp2_with fail
          refine NAMES.out.mono ?_
          rintro e w8 ⟨ao2, ca2, rfl, s1, k1, o1⟩
          have KB := Lib.hid (P1.out.keepBook (ao := ao2) (ca := ca2) (by rw [HLN.out]; exact s1) k1 (by rw [HLN.out]; exact o1) (by have := HL1.out; simp at this; omega))
          rw [HLN.out] at KB
          clear s1 k1 o1 NAMES
          go_wp2_with fail
          refine KB.out.mono ?_
          rintro e w9 ⟨rfl, F2, Ls2, hp2, hl2⟩
          have P2 := Lib.hid hp2
          have HL2 := Lib.hid (show Ls2.length = 2 by rw [hl2, HL1.out]; rfl)
          clear hp2 hl2 KB P1 HL1
          have NAMES := Lib.hid P2.out.names
          rw [HLN.out] at NAMES
          go_wp2_with fail
          refine NAMES.out.mono ?_
          rintro e wn ⟨ao3, ca3, rfl, s3, k3, o3⟩
          have S3 := Lib.hid (Rd.of_sl s3)
          have P3 := Lib.hid (P2.out.keep k3)
          clear s3 k3 o3 NAMES P2
          go_wp2_with fail
          go_loopg [15] N (fun gk k wr => ∃ i : Nat, i + gk = N ∧ k = .int .i64 (i : Int) ∧ Kept (fun _ => False) wn wr)
          case atStart => exact ⟨0, by omega, rfl, Kept.refl _ _⟩
          case round =>
            obtain ⟨i2, hi2, rfl, hk2⟩ := hrel
            by_cases hlt2 : i2 < N
            · have hKl : (sortB (L.map (·.name))).length = N := by rw [sortB_length, List.length_map, HLN.out]
              obtain ⟨nm, hnm⟩ : ∃ nm, (sortB (L.map (·.name)))[i2]? = some nm := ⟨_, List.getElem?_eq_getElem (by rw [hKl]; exact hlt2)⟩
              obtain ⟨x, hfx⟩ := find_of_mem ((sortB_perm _).mem_iff.1 (List.mem_of_getElem? hnm))
              obtain ⟨j, haj⟩ := at_of_find hfx
              have hnsz : nm.size ≤ maxLen := by rw [← haj.name]; exact NSZ.out x (List.mem_of_getElem? haj.here)
              have hp := P3.out.keep hk2
              have SEC := Lib.hid (show Calls Tryz.prog 13 #[.pointer (some ⟨b, 0, none⟩), .string nm] wr fun e w' => e = .returned (.tuple #[.string x.secret, .bool true]) ∧ wr = w' by
                have := secret_any b m L nm wr hp.us hnsz
                rw [hfx] at this
                exact this)
              have AT := Lib.hid (fun z => ref_at_some (hp.keep ((Kept.refl _ wr).drewN z)).ref (by have := hp.few; omega) haj)
              have hrd3 := S3.out.kept hk2 (fun _ _ h => h)
              obtain ⟨_, _, hc⟩ := hrd3.at
              obtain ⟨gu, ou, rfl, c0⟩ := hc i2 (.string nm) (by rw [List.getElem?_map, hnm]; rfl)
              have HC := Lib.hid (show ∀ (t : Nat) (z : ByteArray), (sortB (L.map (·.name)))[t]? = some z → wr.cell? ⟨gu, ou + t, none⟩ = some (.string z) from fun t z hz => by
                obtain ⟨g', o', e, c⟩ := hc t (.string z) (by rw [List.getElem?_map, hz]; rfl)
                injection e with e
                injection e with e1 e2
                rw [e1, e2]
                exact c)
              have hr0 := cell_at hp.ref.blk 0
              simp at hr0
              have hjL : j < L.length := (List.getElem?_eq_some_iff.1 haj.here).1
              obtain ⟨aoL, caL, hvL, _⟩ := (Rd.of_sl hp.ref.sL).shape
              obtain ⟨gL, oL, haoL, _, hsc⟩ := ref_name (Rd.of_sl hp.ref.sL) hvL j hjL
              rw [haoL] at hvL
              rw [hvL, HLN.out] at hr0
              rw [HLN.out] at hjL
              have hLj : (L[j]'(by rw [HLN.out]; exact hjL)).secret = x.secret := by
                have := (List.getElem?_eq_some_iff.1 haj.here).2
                rw [this]
              rw [hLj] at hsc
              have HNOD := Lib.hid hp.us.names
              have HNM := Lib.hid hnm
              have HKL := Lib.hid hKl
              have HK2 := Lib.hid hk2
              clear hc hrd3 hp hk2 haj hfx hnm hKl hLj haoL hvL
              generalize x.secret = sec at *
              go_wp2_with fail
              refine SEC.out.mono ?_
              rintro e w10 ⟨rfl, rfl⟩
              have hbn : decide ((j : Int) < 0) = false := decide_eq_false (by omega)
              by_cases hz2 : i2 = 0
              · subst hz2
                rw [Nat.add_zero] at c0
                have HI2 := Lib.hid hi2
                have HL2' := Lib.hid hlt2
                have hb2 : (0 : Int) < (N : Int) := by omega
                have hb3 : 0 < N := hlt2
                clear hi2 hlt2 hi hlt
                go_wp2_with fail
                go_quiet ((go_at_call 14; exact Calls.quiet_of_same ((AT.out _).mono fun _ _ h => ⟨h.1, h.2.symm⟩)))
                all_goals
                  go_wp2_with fail
                  go_roundg (gk - 1)
                  case measure => have := HI2.out; have := HL2'.out; omega
                  case rel => exact ⟨1, by have := HI2.out; have := HL2'.out; omega, by go_num, HK2.out.drewN _⟩
              · obtain ⟨j', hj'⟩ : ∃ j', i2 = j' + 1 := ⟨i2 - 1, by omega⟩
                obtain ⟨nm', hnm'⟩ : ∃ nm', (sortB (L.map (·.name)))[j']? = some nm' := ⟨_, List.getElem?_eq_getElem (by rw [HKL.out]; omega)⟩
                have hless : Op.bytesLess nm'.toList nm.toList = true := by
                  obtain ⟨h1, e1⟩ := List.getElem?_eq_some_iff.1 hnm'
                  obtain ⟨h2, e2⟩ := List.getElem?_eq_some_iff.1 HNM.out
                  subst hj'
                  have := key_less HNOD.out (j := j' + 1) (by omega) h2
                  rw [← e1, ← e2]
                  exact this
                have c1 := HC.out j' nm' hnm'
                have hw0 : (-9223372036854775808 : Int) ≤ (i2 : Int) - 1 ∧ (i2 : Int) - 1 ≤ 9223372036854775807 := by omega
                have hij : (i2 : Int) - 1 = (j' : Int) := by omega
                have hw1 : wrap64 ((i2 : Int) - 1) = (j' : Int) := (IntWalk.wrap64_in _ hw0).trans hij
                have hw2 : IntKind.i64.wrap ((i2 : Int) - 1) = (j' : Int) := (IntWalk.i64_in _ hw0).trans hij
                have hb1 : decide (0 < i2) = true := decide_eq_true (by omega)
                have hb2 : (i2 : Int) < (N : Int) := by omega
                have hb3 : (j' : Int) < (N : Int) := by omega
                have HJ := Lib.hid hj'
                clear hnm' hw0 hij hj' hz2
                go_wp2_with fail
                go_quiet ((go_at_call 14; exact Calls.quiet_of_same ((AT.out _).mono fun _ _ h => ⟨h.1, h.2.symm⟩)))
                all_goals
                  go_wp2_with fail
                  go_roundg (gk - 1)
                  case measure => omega
                  case rel => exact ⟨i2 + 1, by omega, by go_num, HK2.out.drewN _⟩
            · have HK2 := Lib.hid hk2
              clear hk2
              have P4 := Lib.hid (P3.out.keep HK2.out)
              clear P3 S3
              go_wp2_with fail
              go_loopg [18] M (fun gk k wr => ∃ i : Nat, i + gk = M ∧ k = .int .i64 (i : Int) ∧ ∃ L', PlayU w wr b m rb kb G F2 vL vF vU vK L' Ls2)
              case atStart => exact ⟨0, by omega, rfl, L, P4.out⟩
              case round =>
                obtain ⟨i3, hi3, rfl, L', hp⟩ := hrel
                by_cases hlt3 : i3 < M
                · have hil3 : i3 < ops.length := HM.out ▸ hlt3
                  obtain ⟨g3, off3, rfl, z0, z1, z2⟩ := rd_uop HO.out i3 hil3
                  have hos := HOS.out _ (List.getElem_mem hil3)
                  generalize ops[i3] = o at *
                  have y0 := hp.tri.kept.cell0 z0
                  have y1 := hp.tri.kept.cell0 z1
                  have y2 := hp.tri.kept.cell0 z2
                  obtain ⟨kd, now, nm⟩ := o
                  simp only at y0 y1 y2 hos
                  have HOS3 := Lib.hid hos
                  have AS := Lib.hid (Aside.new hp #[.int .i64 kd, .int .i64 now, .string nm])
                  have HP1 := Lib.hid (hp.keep ((Kept.refl _ wr).alloc (.cells #[.int .i64 kd, .int .i64 now, .string nm] 57)))
                  clear hp z0 z1 z2 hos
                  go_upto_region 32 with fail
                  obtain ⟨W1, hW1⟩ : ∃ W1, W1 = wr.alloc (.cells #[.int .i64 kd, .int .i64 now, .string nm] 57) := ⟨_, rfl⟩
                  obtain ⟨xb, hxb⟩ : ∃ xb, xb = wr.heap.size := ⟨_, rfl⟩
                  rw [← hW1, ← hxb] at AS
                  rw [← hW1] at HP1
                  rw [← hW1, ← hxb]
                  clear hW1 hxb y0 y1 y2
                  obtain ⟨q0, q1, q2⟩ := AS.out.cells
                  go_upto_block 6 with fail
                  go_cut [] (fun wr => ∃ L'', PlayU w wr b m rb kb G F2 vL vF vU vK L'' Ls2 ∧ Aside wr b m G L'' xb #[.int .i64 kd, .int .i64 now, .string nm])
                  case first =>
                    as_aux_lemma =>
                      by_cases k1 : kd = 1
                      · subst k1
                        rcases HP1.out.find nm with ⟨hno, _⟩ | ⟨x, j, hfx, haj⟩
                        · have NO := Lib.hid (fun z => (HP1.out.keep ((Kept.refl _ W1).drewN z)).failed_no HOS3.out.2.2 hno now)
                          clear hno
                          go_wp2_with fail
                          go_quiet ((first | (go_at_call 15; exact Calls.quiet_of_same ((NO.out _).1.mono fun _ _ h => ⟨h.1, h.2.symm⟩)) | (go_at_call 16; exact Calls.quiet_of_same ((NO.out _).2.mono fun _ _ h => ⟨h.1, h.2.symm⟩))))
                          all_goals
                            go_wp2_with fail
                            go_meet
                            case rel => exact ⟨_, HP1.out.keep ((Kept.refl _ W1).drewN _), AS.out.keep ((Kept.refl _ W1).drewN _)⟩
                        · obtain ⟨x', r, h1, h2⟩ := (HP1.out.keep ((Kept.refl _ W1).drew)).failed HOS3.out.2.2 hfx haj HOS3.out.1 HOS3.out.2.1
                          have F1 := Lib.hid h1
                          have F2' := Lib.hid h2
                          have hb1 : (r == r) = true := by cases r <;> rfl
                          clear h1 h2 hfx haj
                          go_wp2_with fail
                          go_region_held3 (fun w' => w'.cell? ⟨xb, 1, none⟩ = some (.int .i64 now) ∧ w'.cell? ⟨xb, 2, none⟩ = some (.string nm)) (go_keep)
                            (first
                              | (go_at_call 15; refine F1.out.mono ?_; rintro e w11 ⟨rfl, hh, hs⟩; have HH := Lib.hid hh; have AS1 := Lib.hid (hs _ _ (AS.out.keep ((Kept.refl _ W1).drew))); obtain ⟨r0, r1, r2⟩ := AS1.out.cells; clear hh hs)
                              | (go_at_call 16; refine (F2'.out _ HH.out).mono ?_; rintro e w12 ⟨rfl, hh, hs⟩; have HP2 := Lib.hid hh; have AS2 := Lib.hid (hs _ _ AS1.out); obtain ⟨s0, s1, s2⟩ := AS2.out.cells; clear hh hs))
                          all_goals
                            go_wp2_with fail
                            go_meet
                            case rel => exact ⟨_, HP2.out, AS2.out⟩
                      · by_cases k2 : kd = 2
                        · subst k2
                          rcases HP1.out.find nm with ⟨hno, _⟩ | ⟨x, j, hfx, haj⟩
                          · have NO := Lib.hid (HP1.out.good_no HOS3.out.2.2 hno)
                            clear hno
                            go_wp2_with fail
                            refine NO.out.1.mono ?_
                            rintro e w11 ⟨rfl, rfl⟩
                            go_wp2_with fail
                            refine NO.out.2.mono ?_
                            rintro e w11 ⟨rfl, rfl⟩
                            go_wp2_with fail
                            go_meet
                            case rel => exact ⟨_, HP1.out, AS.out⟩
                          · obtain ⟨x', h1, h2⟩ := HP1.out.good HOS3.out.2.2 hfx haj
                            have F1 := Lib.hid h1
                            have F2' := Lib.hid h2
                            clear h1 h2 hfx haj
                            go_wp2_with fail
                            refine F1.out.mono ?_
                            rintro e w11 ⟨rfl, hh, hs⟩
                            have HH := Lib.hid hh
                            have AS1 := Lib.hid (hs _ _ AS.out)
                            obtain ⟨r0, r1, r2⟩ := AS1.out.cells
                            clear hh hs
                            go_wp2_with fail
                            refine (F2'.out _ HH.out).mono ?_
                            rintro e w12 ⟨rfl, hh, hs⟩
                            have HP2 := Lib.hid hh
                            have AS2 := Lib.hid (hs _ _ AS1.out)
                            clear hh hs
                            go_wp2_with fail
                            go_meet
                            case rel => exact ⟨_, HP2.out, AS2.out⟩
                        · go_wp2_with fail
                          go_meet
                          case rel => exact ⟨_, HP1.out, AS.out⟩
                  case rest =>
                    obtain ⟨L3, hp3, has3⟩ := hcut
                    obtain ⟨W3, hW3⟩ : ∃ W3, W3 = wc := ⟨_, rfl⟩
                    rw [← hW3] at hp3 has3
                    rw [← hW3]
                    clear hW3 q0 q1 q2 HP1 AS
                    obtain ⟨q0, q1, q2⟩ := has3.cells
                    obtain ⟨lk, hlk⟩ := locked_both L3 HOS3.out.2.2
                    have LK := Lib.hid (fun z t => hlk t (hp3.keep ((Kept.refl _ W3).drewN z)))
                    have FA := Lib.hid (fun z => fails_any b m L3 nm _ (hp3.keep ((Kept.refl _ W3).drewN z)).us HOS3.out.2.2)
                    have HP3 := Lib.hid hp3
                    clear hlk has3
                    rcases hp3.find nm with ⟨hno, hne⟩ | ⟨x, j, hfx, haj⟩
                    case' inl =>
                      have AT := Lib.hid (ref_at_none hp3.ref (by have := hp3.few; omega) hne)
                      rw [hno] at FA
                      clear hp3 hno hne
                      obtain ⟨f, hf⟩ : ∃ f, f = failsOf none := ⟨_, rfl⟩
                      rw [← hf] at FA
                      have hf0 : f = 0 := hf
                      clear hf
                      subst hf0
                      go_wp2_with fail
                      refine AT.out.mono ?_
                      rintro e w13 ⟨rfl, rfl⟩
                    case' inr =>
                      have AT := Lib.hid (ref_at_some hp3.ref (by have := hp3.few; omega) haj)
                      rw [hfx] at FA
                      obtain ⟨gF, oF, cF, hvF, hcF, x0, _⟩ := row_at (i := j) (u := .int .i64 x.fails) hp3.ref.sF (by rw [List.getElem?_map, haj.here]; rfl)
                      have hr1 := cell_at hp3.ref.blk 1
                      simp at hr1
                      rw [hvF] at hr1
                      have hjL : j < L3.length := (List.getElem?_eq_some_iff.1 haj.here).1
                      have hfe : failsOf (some x) = x.fails := rfl
                      rw [hfe] at FA
                      clear hp3 hfx haj hvF hfe
                      generalize x.fails = f at *
                      generalize L3.length = n3 at *
                      go_wp2_with fail
                      refine AT.out.mono ?_
                      rintro e w13 ⟨rfl, rfl⟩
                    all_goals
                      go_wp2_with fail
                      go_quiet ((first
                        | (go_at_call 19; exact Calls.quiet_of_same ((LK.out _ _).1.mono fun _ _ h => ⟨h.1, h.2.symm⟩))
                        | (go_at_call 20; exact Calls.quiet_of_same ((LK.out _ _).2.mono fun _ _ h => ⟨h.1, h.2.symm⟩))
                        | (go_at_call 21; exact Calls.quiet_of_same ((FA.out _).mono fun _ _ h => ⟨h.1, h.2.symm⟩))))
                    all_goals
                      go_wp2_with fail
                      go_roundg (gk - 1)
                      case measure => omega
                      case rel => exact ⟨i3 + 1, by omega, by go_num, _, HP3.out.keep ((Kept.refl _ W3).drewN _)⟩
                · have HP := Lib.hid hp
                  clear hp
                  go_wp2_with (first
                    | (go_at_call 17; refine (nil_good _ _).mono ?_; rintro e w11 ⟨rfl, rfl⟩)
                    | (go_at_call 13; refine (nil_secret _ _).mono ?_; rintro e w11 ⟨rfl, rfl⟩)
                    | (go_at_call 15; refine (nil_fail _ _ _).mono ?_; rintro e w11 ⟨rfl, rfl⟩)
                    | (go_at_call 19; refine (nil_locked _ _ _).mono ?_; rintro e w11 ⟨rfl, rfl⟩)
                    | (go_at_call 21; refine (nil_fails _ _).mono ?_; rintro e w11 ⟨rfl, rfl⟩)
                    | (go_at_call 12; refine (nil_names _).mono ?_; rintro e w11 ⟨rfl, rfl⟩)
                    | (go_at_call 22; refine (HP.out.book.apart (by have := HL2.out; omega)).mono ?_; rintro e w11 ⟨rfl, hk8⟩; have HK8 := Lib.hid hk8; clear hk8))
                  go_ret
                  exact ⟨rfl, HP.out.tri.kept.trans HK8.out (fun k hk hF => by have := HP.out.tri.new k (.inr (.inr hF)); omega)⟩
end Go.Proofs.YtgfpcjieonniiaaGreat
