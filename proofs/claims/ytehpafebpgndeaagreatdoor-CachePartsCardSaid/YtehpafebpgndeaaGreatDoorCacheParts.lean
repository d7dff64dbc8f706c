/-
  CacheParts: items are told by key, the order has the same keys, the cost of all is what is used: the walk.
-/
import Derived.Test.YtehpafebpgndeaaGreatDoorSetF
namespace Go.Proofs.YtehpafebpgndeaaGreatDoor
set_option linter.unusedVariables false
set_option linter.unusedSimpArgs false
set_option linter.unnecessarySimpa false
open Go.RowKit
set_option maxRecDepth 100000

theorem rd_str' {w : World} {l : List ByteArray} {ao : Option Addr} {m c n : Nat} (h : Rd w 1 n (.slice ao m c) (l.map Value.string)) (i : Nat) (hi : i < l.length) : ∃ g off, ao = some ⟨g, off, none⟩ ∧ w.cell? ⟨g, off + i, none⟩ = some (.string l[i]) := by
  obtain ⟨_, _, hc⟩ := h.at
  exact hc i _ (by simp [hi])
theorem keys_len (s : CSt) : (keys s.U).length = s.U.length := by unfold keys; rw [List.length_map]
theorem usedL_take_succ (L : List It) {j : Nat} (h : j < L.length) : usedL (L.take (j + 1)) = usedL (L.take j) + costI L[j] := by
  rw [List.take_succ_eq_append_getElem h, usedL_snoc]
theorem usedL_take_le (L : List It) (j : Nat) : usedL (L.take j) ≤ usedL L := by
  have h := usedL_append (L.take j) (L.drop j)
  rw [List.take_append_drop] at h
  have := usedL_ge (L.drop j)
  omega
theorem item_less {U : List It} (hn : (keys U).Nodup) {j : Nat} (h0 : 0 < j) (h : j < (itemsL U).length) : Op.bytesLess ((itemsL U)[j - 1]'(by omega)).key.toList ((itemsL U)[j]'h).key.toList = true := by
  have hs := sort_strict hn
  have hk := items_keys U hn
  have hl : (sortB (keys U)).length = (itemsL U).length := by rw [← hk]; unfold keys; rw [List.length_map]
  have h1 := List.pairwise_iff_getElem.1 hs (j - 1) j (by omega) (by omega) (by omega)
  have e : ∀ i (hi : i < (itemsL U).length), (sortB (keys U))[i]'(by omega) = ((itemsL U)[i]'hi).key := fun i hi => by
    have h2 : (keys (itemsL U))[i]'(by unfold keys; rw [List.length_map]; exact hi) = ((itemsL U)[i]'hi).key := by unfold keys; rw [List.getElem_map]
    rw [← h2]
    congr 1
    exact hk.symm
  rw [e (j - 1) (by omega), e j h] at h1
  unfold bltB at h1
  rw [ByteArray.toList_eq, ByteArray.toList_eq, bytesLess_eq]
  exact h1
theorem bool_zero : ∀ w : World, (zeroValue 4).run Tryz.prog w = .ok (.bool false) w := fun w => by kernel_rfl
theorem set_look {w : World} {b cnt : Nat} {ks : List ByteArray} (h : Mp w Tryz.prog 9 b cnt (setF ks)) {k : ByteArray} (hk : k ∈ ks) (hs : k.size ≤ maxLen) : (Instr.lookup 49 (.map (some b)) (.string k) false).run Tryz.prog w = .ok (.bool true) w :=
  h.look skeyC Tryz.underlying49 (bool_zero w) (skeyOf hs) (setF_some hk)
set_option maxHeartbeats 8000000 in
theorem cacheParts_walk (budget : Int) (l : List Cm) (ao : Option Addr) (ca : Nat) (w : World) (hL : Laid w) (hb0 : -9223372036854775808 ≤ budget) (hb1 : budget ≤ 9223372036854775807) (hx : Rd w 5 l.length (.slice ao l.length ca) (flatC l)) :
    Calls Tryz.prog 18 #[.int .i64 budget, .slice ao l.length ca] w fun e w' => e = .returned (.bool true) ∧ Kept (fun _ => False) w w' := by
  have AL := Lib.hid (alive_true w hL)
  have HL := Lib.hid hL
  clear hL
  by_cases g1 : 60 < l.length
  · go_enter Tryz.func18, Tryz.ntmps18
    go_wp2_with fail
    refine AL.out.mono ?_
    rintro e w1 ⟨rfl, hk⟩
    have HK := Lib.hid hk
    clear hk
    go_wp2_with fail
    go_ret
    exact ⟨rfl, HK.out⟩
  have HX := Lib.hid hx
  clear hx
  obtain ⟨n, hn⟩ : ∃ n, n = l.length := ⟨_, rfl⟩
  rw [← hn] at g1 HX ⊢
  have HN := Lib.hid hn
  clear hn
  go_enter Tryz.func18, Tryz.ntmps18
  go_wp2_with fail
  refine AL.out.mono ?_
  rintro e w1 ⟨rfl, hk⟩
  have NEW := Lib.hid (own_newc hk HL.out budget hb0 hb1)
  clear hk
  go_wp2_with fail
  refine NEW.out.mono ?_
  rintro e w2 ⟨c, rfl, o2⟩
  have O2 := Lib.hid o2
  clear o2 NEW
  go_wp2_with fail
  go_loopg [29] n (fun gk k wr => ∃ (i : Nat) (s : CSt) (B : List (Nat × Obj)), i + gk = n ∧ k = .int .i64 (i : Int) ∧ VerOk s ∧ s.bud = min (max budget 0) 1000000 ∧ OwnC w wr c s i B)
  case atStart => exact ⟨0, newC budget, [], by omega, rfl, newC_ver _, rfl, O2.out⟩
  case round =>
    obtain ⟨i, s, B, hi, rfl, hv, hbud, hj⟩ := hrel
    have HVO := Lib.hid hv
    have HBUD := Lib.hid hbud
    clear hv O2 hbud
    by_cases hlt : i < n
    · have hil : i < l.length := by rw [← HN.out]; exact hlt
      have hrd := HX.out.kept hj.keep (fun _ _ h => h)
      rw [HN.out] at hrd
      obtain ⟨g, off, rfl, x0, x1, x2, x3, x4⟩ := rd_cm hrd rfl i hil
      clear hrd
      generalize hxx : (l[i]'hil) = x at *
      clear hxx
      by_cases b0 : 100 < (x.key.size : Int)
      · have KE := Lib.hid hj.keep
        clear hj
        go_wp2_with fail
        go_ret
        exact ⟨rfl, KE.out.alloc _⟩
      by_cases b1 : 600 < (x.val.size : Int)
      · have KE := Lib.hid hj.keep
        clear hj
        go_wp2_with fail
        go_ret
        exact ⟨rfl, KE.out.alloc _⟩
      obtain ⟨r, s', hr⟩ : ∃ r s', doC s x 3 = (r, s') := ⟨_, _, rfl⟩
      have TD := Lib.hid (show Told s x r s' by have h := told_do x 3 HVO.out hj.1.nd; rw [hr] at h; exact h)
      have OK := Lib.hid (TD.out.ok HVO.out)
      have HB' := Lib.hid (TD.out.bud.trans HBUD.out)
      have DO := Lib.hid (own_doA (hj.alloc (.cells #[.int .i64 x.op, .string x.key, .string x.val, .int .i64 x.num, .int .i64 x.ver] 32)) (by omega) x 3 (by omega) (by omega) hr)
      clear hj hr
      go_wp2_with fail
      refine DO.out.mono ?_
      rintro e w3 ⟨kv, B3, rfl, o3, hB3, -, ao3, ca3, rfl⟩
      have IT := Lib.hid (own_items o3)
      clear o3 hB3 DO x0 x1 x2 x3 x4
      go_wp2_with fail
      refine IT.out.mono ?_
      rintro e w4 ⟨v4, B4, rfl, o4, hB4, hh4, ao4, ca4, rfl⟩
      have ORD := Lib.hid (own_order o4)
      have HH4 := Lib.hid hh4
      clear o4 hB4 hh4 IT
      go_wp2_with fail
      refine ORD.out.mono ?_
      rintro e w5 ⟨v5, B5, rfl, o5, hB5, hh5, ao5, ca5, rfl⟩
      have SL4 := Lib.hid (o5.held (HH4.out.more hB5))
      have SL5 := Lib.hid (o5.held hh5)
      have HND := Lib.hid o5.1.nd
      have HUS := Lib.hid o5.1.used
      have HB1 := Lib.hid o5.1.b1
      have HGL := Lib.hid (show s'.U.length ≤ 60 by have h1 := o5.1.gl; have h2 := o5.1.g0; have h3 := o5.1.v1; omega)
      have HKL := Lib.hid o5.1.keyl
      have HVL := Lib.hid o5.1.vall
      obtain ⟨b, hb⟩ : ∃ b, w5.heap.size = b := ⟨_, rfl⟩
      have O6 := Lib.hid (o5.alloc (.map #[] 0))
      rw [hb] at O6
      have MP6 := Lib.hid ((Mp.made w5 Tryz.prog 9).ext fun x => (setF_nil x).symm)
      rw [hb] at MP6
      have HLT4 := Lib.hid (fun k (hk : (Value.slice ao4 s'.U.length ca4).ownBlock = some k) => (show k ≠ b by have := SL4.out.lt hk; omega))
      have HLT5 := Lib.hid (fun k (hk : (Value.slice ao5 s'.U.length ca5).ownBlock = some k) => (show k ≠ b by have := SL5.out.lt hk; omega))
      have hmm := @run_makeMap Tryz.prog
      have HIL := Lib.hid (itemsL_length s'.U)
      have HIU := Lib.hid (items_cost s'.U HND.out)
      have HIK := Lib.hid (items_keys s'.U HND.out)
      clear o5 hB5 hh5 ORD
      go_wp2_with fail
      clear hmm
      obtain ⟨w6, hw6⟩ : ∃ w6, w6 = w5.alloc (.map #[] 0) := ⟨_, rfl⟩
      rw [← hw6] at O6 MP6 ⊢
      have SL6 := Lib.hid (SL4.out.kept (hw6 ▸ (Kept.refl (fun _ => False) w5).alloc _) (fun _ _ h => h))
      have SO6 := Lib.hid (SL5.out.kept (hw6 ▸ (Kept.refl (fun _ => False) w5).alloc _) (fun _ _ h => h))
      obtain ⟨N, hN⟩ : ∃ N, N = s'.U.length := ⟨_, rfl⟩
      rw [← hN] at SL6 SO6 HIL HGL HLT4 HLT5 ⊢
      have HNN := Lib.hid hN
      have hN60 := HGL.out
      clear hw6 hb hN SL4 SL5
      go_loopg [10, 53] N (fun gk nv jv wr => ∃ (j cnt : Nat), j + gk = N ∧ jv = .int .i64 (j : Int) ∧ nv = .int .i64 (usedL ((itemsL s'.U).take j)) ∧ cnt ≤ j ∧ Mp wr Tryz.prog 9 b cnt (setF ((keys (itemsL s'.U)).take j)) ∧ Kept (fun k => k = b) w6 wr)
      case atStart => exact ⟨0, 0, by omega, rfl, rfl, Nat.le_refl _, MP6.out, Kept.refl _ _⟩
      case round =>
        obtain ⟨j, cnt, hj2, rfl, rfl, hcnt, hmp, hkk⟩ := hrel
        by_cases hlt2 : j < N
        · have hjl : j < (itemsL s'.U).length := by rw [HIL.out]; exact hlt2
          have hrd : Rd wr 4 (itemsL s'.U).length (.slice ao4 N ca4) (flat (itemsL s'.U)) := by
            rw [HIL.out]
            exact Rd.of_sl (SL6.out.kept hkk (fun k hk e => HLT4.out k hk e))
          obtain ⟨g2, off2, rfl, y0, y1, y2, y3⟩ := rd_it hrd rfl j hjl
          have HRD := Lib.hid (fun (W : World) (hk : Kept (fun k => k = b) w6 W) => (by
            rw [HIL.out]
            exact Rd.of_sl (SL6.out.kept hk (fun k hk e => HLT4.out k hk e)) : Rd W 4 (itemsL s'.U).length (.slice (some ⟨g2, off2, none⟩) N ca4) (flat (itemsL s'.U))))
          have HUN := Lib.hid (usedL_take_succ (itemsL s'.U) hjl)
          have hule := usedL_take_le (itemsL s'.U) (j + 1)
          have hulj := usedL_take_le (itemsL s'.U) j
          have hul0 := usedL_ge ((itemsL s'.U).take j)
          rw [HUN.out, HIU.out] at hule
          have husd := HUS.out
          have hb1d := HB1.out
          have hks : (itemsL s'.U)[j].key.size ≤ 60 := HKL.out _ ((itemsL_mem HND.out).1 (List.getElem_mem hjl))
          have HTK := Lib.hid (show (keys (itemsL s'.U)).take (j + 1) = (keys (itemsL s'.U)).take j ++ [(itemsL s'.U)[j].key] by
            rw [List.take_succ_eq_append_getElem (by unfold keys; rw [List.length_map]; exact hjl)]
            unfold keys
            rw [List.getElem_map])
          have hcp := costI_pos (itemsL s'.U)[j]
          have hvs : (itemsL s'.U)[j].val.size ≤ 500 := HVL.out _ ((itemsL_mem HND.out).1 (List.getElem_mem hjl))
          have hcm : cnt < maxLen := by unfold maxLen; omega
          rcases j with _ | j'
          · generalize hy : (itemsL s'.U)[0] = y at *
            have HY := Lib.hid hy
            have HCO := Lib.hid (fun W => cost_any y W (by omega) (by omega))
            have HKO := Lib.hid (skeyOf (k := y.key) (by unfold maxLen; omega))
            clear hy hrd
            have HWR := Lib.hid (IntWalk.wrap64_in (usedL [] + costI y) (by rw [usedL_nil]; unfold costI; omega))
            simp only [Nat.zero_mul, Nat.add_zero] at y0 y1 y2 y3
            go_wp2_with fail
            refine (HCO.out _).mono ?_
            rintro e w7 ⟨rfl, hk7⟩
            have K7 := hkk.trans (hk7.mono (fun _ _ h => h.elim)) (fun _ _ h => h)
            have hmp7 := hmp.kept hk7 (fun h => h)
            obtain ⟨_, _, hqe, z0, z1, z2, z3⟩ := rd_it (HRD.out w7 K7) rfl 0 hjl
            injection hqe with hqe
            injection hqe with e1 e2
            subst e1 e2
            simp only [HY.out, Nat.zero_mul, Nat.add_zero] at z0 z1 z2 z3
            have HK7 := Lib.hid K7
            clear hk7 hmp hkk K7 y0 y1 y2 y3
            go_wp2_with (at_mapUpdate; refine wpList_store_mp _ rfl (.tmp 63) (.tmp 68) (.const (.bool true)) rfl skeyC Tryz.underlying49 rfl hmp7 hcm (.string y.key) (.bool true) (.string y.key.data.toList) rfl rfl HKO.out ?_; intro w8 hmp8 hk8; have K8 := HK7.out.trans hk8 (fun _ _ h => h); have FMP := Lib.hid hmp8; obtain ⟨_, _, hqe, q0, q1, q2, q3⟩ := rd_it (HRD.out w8 K8) rfl 0 hjl; injection hqe with hqe; injection hqe with e1 e2; subst e1 e2; simp only [HY.out, Nat.zero_mul, Nat.add_zero] at q0 q1 q2 q3; have FK := Lib.hid K8; clear hmp8 hk8 K8; simp only [Act.put])
            go_region
            go_wp2_with fail
            go_roundg (gk - 1)
            case measure => omega
            case rel => exact ⟨0 + 1, (if (setF ((keys (itemsL s'.U)).take 0) (.string y.key.data.toList)).isSome = true then cnt else cnt + 1), by omega, by go_num, by rw [HUN.out]; exact congrArg _ HWR.out, by split <;> omega, by rw [HTK.out]; exact FMP.out.ext (fun z => setF_upd _ _ z), FK.out.drew⟩
          · have hless := item_less HND.out (show 0 < j' + 1 by omega) hjl
            simp only [Nat.add_sub_cancel] at hless
            generalize hy : (itemsL s'.U)[j' + 1] = y at *
            generalize hp : (itemsL s'.U)[j']'(by omega) = pv at *
            have HY := Lib.hid hy
            have HPREV := Lib.hid hp
            have HCO := Lib.hid (fun W => cost_any y W (by omega) (by omega))
            have HKO := Lib.hid (skeyOf (k := y.key) (by unfold maxLen; omega))
            clear hy hp hrd
            go_wp2_with fail
            refine (HCO.out _).mono ?_
            rintro e w7 ⟨rfl, hk7⟩
            have K7 := hkk.trans (hk7.mono (fun _ _ h => h.elim)) (fun _ _ h => h)
            have hmp7 := hmp.kept hk7 (fun h => h)
            obtain ⟨_, _, hqe, z0, z1, z2, z3⟩ := rd_it (HRD.out w7 K7) rfl (j' + 1) hjl
            injection hqe with hqe
            injection hqe with e1 e2
            subst e1 e2
            simp only [HY.out] at z0 z1 z2 z3
            have HK7 := Lib.hid K7
            clear hk7 hmp hkk K7 y0 y1 y2 y3
            go_wp2_with (at_mapUpdate; refine wpList_store_mp _ rfl (.tmp 63) (.tmp 68) (.const (.bool true)) rfl skeyC Tryz.underlying49 rfl hmp7 hcm (.string y.key) (.bool true) (.string y.key.data.toList) rfl rfl HKO.out ?_; intro w8 hmp8 hk8; have K8 := HK7.out.trans hk8 (fun _ _ h => h); have FMP := Lib.hid hmp8; obtain ⟨_, _, hqe, q0, q1, q2, q3⟩ := rd_it (HRD.out w8 K8) rfl (j' + 1) hjl; injection hqe with hqe; injection hqe with e1 e2; subst e1 e2; simp only [HY.out] at q0 q1 q2 q3; obtain ⟨_, _, hpe, p0, p1, p2, p3⟩ := rd_it (HRD.out w8 K8) rfl j' (by omega); injection hpe with hpe; injection hpe with e1 e2; subst e1 e2; simp only [HPREV.out] at p0 p1 p2 p3; have FK := Lib.hid K8; clear hmp8 hk8 K8; simp only [Act.put])
            go_region
            go_wp2_with fail
            go_roundg (gk - 1)
            case measure => omega
            case rel => exact ⟨(j' + 1) + 1, (if (setF ((keys (itemsL s'.U)).take (j' + 1)) (.string y.key.data.toList)).isSome = true then cnt else cnt + 1), by omega, by go_num, by rw [HUN.out], by split <;> omega, by rw [HTK.out]; exact FMP.out.ext (fun z => setF_upd _ _ z), FK.out.drew⟩
        · obtain rfl : N = j := by omega
          have FKB := Lib.hid hkk
          obtain ⟨o8, ho8⟩ := mp_block hmp
          have O8 := Lib.hid (show OwnC w wr c s' ((i : Int) + 1) ((b, o8) :: B5) from ⟨O6.out.1, O6.out.2.over hkk ho8⟩)
          have htk1 : (keys (itemsL s'.U)).take N = keys (itemsL s'.U) := List.take_of_length_le (by unfold keys; rw [List.length_map, HIL.out]; exact Nat.le_refl _)
          have htk2 : (itemsL s'.U).take N = (itemsL s'.U) := List.take_of_length_le (by rw [HIL.out]; exact Nat.le_refl _)
          rw [htk1] at hmp
          rw [htk2, HIU.out]
          have LOOK := Lib.hid (fun (k : ByteArray) (hk : k ∈ keys s'.U) => set_look hmp (k := k) (by rw [HIK.out]; exact (sortB_perm _).mem_iff.2 hk) (by
            obtain ⟨z, hz, rfl⟩ := List.mem_map.1 hk
            have := HKL.out z hz
            unfold maxLen; omega))
          have SO8 := Lib.hid (SO6.out.kept hkk (fun k hk e => HLT5.out k hk e))
          have hun := HUS.out
          have hb1d := HB1.out
          clear hmp hkk htk1 htk2 ho8
          go_wp2_with fail
          go_loopg [88] N (fun gk jv w9 => ∃ j2 : Nat, j2 + gk = N ∧ jv = .int .i64 (j2 : Int) ∧ w9 = wr)
          case atStart => exact ⟨0, by omega, rfl, rfl⟩
          case round =>
            obtain ⟨j2, hj3, rfl, rfl⟩ := hrel
            by_cases hlt3 : j2 < N
            · have hkl : j2 < (keys s'.U).length := by rw [keys_len, ← HNN.out]; exact hlt3
              have hso := SO8.out
              rw [HNN.out, ← keys_len] at hso
              obtain ⟨g3, off3, hao, v0⟩ := rd_str' (Rd.of_sl hso) j2 hkl
              subst hao
              have hlk := LOOK.out _ (List.getElem_mem hkl)
              clear hso
              generalize (keys s'.U)[j2]'hkl = kq at *
              go_wp2_with fail
              go_roundg (gk - 1)
              case measure => omega
              case rel => exact ⟨j2 + 1, by omega, by go_num, rfl⟩
            · have US := Lib.hid (own_used O8.out)
              have hbd := HB'.out
              have hund : ¬ min (max budget 0) 1000000 < usedL s'.U := by rw [← hbd]; omega
              generalize usedL s'.U = un at *
              clear hbd
              go_wp2_with fail
              refine US.out.mono ?_
              rintro e w9 ⟨rfl, rfl⟩
              go_wp2_with fail
              all_goals
                go_roundg (n - i - 1)
                case measure => omega
                case rel => exact ⟨i + 1, s', _, by omega, by go_num, OK.out, HB'.out, O8.out⟩
    · have KE := Lib.hid hj.keep
      clear hj
      go_wp2_with fail
      go_ret
      exact ⟨rfl, KE.out⟩
end Go.Proofs.YtehpafebpgndeaaGreatDoor
