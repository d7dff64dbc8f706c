/-
  CacheScans: keys that begin with a text are told, rising, a part at a time: the walk.
-/
import Derived.Test.YtehpafebpgndeaaGreatDoorSetF
namespace Go.Proofs.YtehpafebpgndeaaGreatDoor
set_option linter.unusedVariables false
set_option linter.unusedSimpArgs false
set_option linter.unnecessarySimpa false
open Go.RowKit Classical
set_option maxRecDepth 100000

theorem rd_str' {w : World} {l : List ByteArray} {ao : Option Addr} {m c n : Nat} (h : Rd w 1 n (.slice ao m c) (l.map Value.string)) (i : Nat) (hi : i < l.length) : ∃ g off, ao = some ⟨g, off, none⟩ ∧ w.cell? ⟨g, off + i, none⟩ = some (.string l[i]) := by
  obtain ⟨_, _, hc⟩ := h.at
  exact hc i _ (by simp [hi])
theorem bool_zero : ∀ w : World, (zeroValue 4).run Tryz.prog w = .ok (.bool false) w := fun w => by kernel_rfl
theorem set_look {w : World} {b cnt : Nat} {ks : List ByteArray} (h : Mp w Tryz.prog 9 b cnt (setF ks)) {k : ByteArray} (hk : k ∈ ks) (hs : k.size ≤ maxLen) : (Instr.lookup 49 (.map (some b)) (.string k) false).run Tryz.prog w = .ok (.bool true) w :=
  h.look skeyC Tryz.underlying49 (bool_zero w) (skeyOf hs) (setF_some hk)
theorem pre_iff (pre k : ByteArray) : preB pre k = true ↔ pre.size ≤ k.size ∧ k.extract 0 pre.size = pre := by
  unfold preB Lib.hasPrefix
  rw [List.isPrefixOf_iff_prefix, List.prefix_iff_eq_take]
  have hl : (k.extract 0 pre.size).data.toList = k.data.toList.take pre.size := by
    rw [ByteArray.data_extract, Array.toList_extract, List.extract_eq_take_drop, List.drop_zero, Nat.sub_zero]
  have hs : pre.data.toList.length = pre.size := rfl
  have hk : k.data.toList.length = k.size := rfl
  constructor
  · intro h
    rw [hs] at h
    refine ⟨?_, tolist_inj (by rw [hl, ← h])⟩
    have h2 := congrArg List.length h
    rw [List.length_take, hs, hk] at h2
    omega
  · rintro ⟨_, h⟩
    rw [hs, ← hl, h]
theorem eq_toList {a b : ByteArray} (h : a = b) : (a.toList == b.toList) = true := by rw [h]; exact beq_self_eq_true _
theorem ne_toList {a b : ByteArray} (h : a ≠ b) : (a.toList == b.toList) = false := by
  rw [ByteArray.toList_eq, ByteArray.toList_eq]
  exact beq_eq_false_iff_ne.2 fun e => h (tolist_inj e)
/-- What was told last. -/
def LastS (P : List ByteArray) (g : Nat) (last : ByteArray) : Prop := (g = 0 ∧ last = ⟨#[]⟩) ∨ ∃ h : g - 1 < P.length, 0 < g ∧ last = P[g - 1]
theorem LastS.below {P : List ByteArray} {g : Nat} {last : ByteArray} (h : LastS P g last) (hp : P.Pairwise (fun x y => bltB x y = true)) (hk : ∀ k ∈ P, 1 ≤ k.size) (hg : g < P.length) : bltB last P[g] = true := by
  rcases h with ⟨rfl, rfl⟩ | ⟨h1, h0, rfl⟩
  · exact empty_below (hk _ (List.getElem_mem hg))
  · exact List.pairwise_iff_getElem.1 hp (g - 1) g h1 hg (by omega)
theorem LastS.next {P : List ByteArray} {g : Nat} (hg : g < P.length) : LastS P (g + 1) P[g] := .inr ⟨by simpa using hg, by omega, by simp⟩
set_option maxHeartbeats 8000000 in
theorem cacheScans_walk (l : List ByteArray) (pfx : ByteArray) (num : Int) (ao : Option Addr) (ca : Nat) (w : World) (hL : Laid w) (hx : Rd w 1 l.length (.slice ao l.length ca) (l.map Value.string)) (hxb : ∀ y ∈ l, y.size ≤ maxLen) (hq0 : -9223372036854775808 ≤ num) (hq1 : num ≤ 9223372036854775807) :
    Calls Tryz.prog 8 #[.slice ao l.length ca, .string pfx, .int .i64 num] w fun e w' => e = .returned (.bool true) ∧ Kept (fun _ => False) w w' := by
  have AL := Lib.hid (alive_true w hL)
  have HL := Lib.hid hL
  clear hL
  by_cases g1 : 40 < l.length
  · go_enter Tryz.func8, Tryz.ntmps8
    go_wp2_with fail
    refine AL.out.mono ?_
    rintro e w1 ⟨rfl, hk⟩
    have HK := Lib.hid hk
    clear hk
    go_wp2_with fail
    go_ret
    exact ⟨rfl, HK.out⟩
  by_cases g2 : 60 < (pfx.size : Int)
  · go_enter Tryz.func8, Tryz.ntmps8
    go_wp2_with fail
    refine AL.out.mono ?_
    rintro e w1 ⟨rfl, hk⟩
    have HK := Lib.hid hk
    clear hk
    go_wp2_with fail
    go_ret
    exact ⟨rfl, HK.out⟩
  by_cases g3 : num < 1
  · go_enter Tryz.func8, Tryz.ntmps8
    go_wp2_with fail
    refine AL.out.mono ?_
    rintro e w1 ⟨rfl, hk⟩
    have HK := Lib.hid hk
    clear hk
    go_wp2_with fail
    go_ret
    exact ⟨rfl, HK.out⟩
  by_cases g4 : 40 < num
  · go_enter Tryz.func8, Tryz.ntmps8
    go_wp2_with fail
    refine AL.out.mono ?_
    rintro e w1 ⟨rfl, hk⟩
    have HK := Lib.hid hk
    clear hk
    go_wp2_with fail
    go_ret
    exact ⟨rfl, HK.out⟩
  have HX := Lib.hid hx
  have HXB := Lib.hid hxb
  clear hx hxb
  obtain ⟨n, hn⟩ : ∃ n, n = l.length := ⟨_, rfl⟩
  rw [← hn] at g1 HX ⊢
  have HN := Lib.hid hn
  clear hn
  obtain ⟨q, rfl⟩ : ∃ q : Nat, num = (q : Int) := ⟨num.toNat, by omega⟩
  go_enter Tryz.func8, Tryz.ntmps8
  go_wp2_with fail
  refine AL.out.mono ?_
  rintro e w1 ⟨rfl, hk⟩
  have NEW := Lib.hid (own_newc hk HL.out 100000 (by decide) (by decide))
  clear hk
  go_wp2_with fail
  refine NEW.out.mono ?_
  rintro e w2 ⟨c, rfl, o2⟩
  have M2 := Lib.hid (MapC.made o2)
  have hmm := @run_makeMap Tryz.prog
  obtain ⟨b, hb⟩ : ∃ b, w2.heap.size = b := ⟨_, rfl⟩
  rw [hb] at M2
  clear o2 NEW
  go_wp2_with fail
  clear hmm
  go_loopg [44] n (fun gk k wr => ∃ (i : Nat) (s : CSt), i + gk = n ∧ k = .int .i64 (i : Int) ∧ FlS (l.take i) s ∧ (∀ y ∈ l.take i, 1 ≤ y.size ∧ y.size ≤ 60) ∧ MapC w wr c s i b ((keys s.U).filter (preB pfx)).length (setF ((l.take i).filter (preB pfx))))
  case atStart => exact ⟨0, newC 100000, by omega, rfl, FlS.start, (fun y hy => by cases hy), M2.out⟩
  case round =>
    obtain ⟨i, s, hi, rfl, hf, hsz, hj⟩ := hrel
    have HF := Lib.hid hf
    have HSZ := Lib.hid hsz
    clear hf hsz M2 hb
    by_cases hlt : i < n
    · have hil : i < l.length := by rw [← HN.out]; exact hlt
      obtain ⟨g, off, rfl, x0⟩ := rd_str' (HX.out.kept hj.keep (fun _ _ h => h)) i hil
      have hkm := HXB.out _ (List.getElem_mem hil)
      have HTK := Lib.hid (show l.take (i + 1) = l.take i ++ [l[i]] from List.take_succ_eq_append_getElem hil)
      have hlen : (l.take i).length < 40 := by rw [List.length_take]; omega
      generalize (l[i]'hil) = x at *
      by_cases b0 : (x.size : Int) < 1
      · have KE := Lib.hid hj.keep
        clear hj
        go_wp2_with fail
        go_ret
        exact ⟨rfl, KE.out⟩
      by_cases b1 : 60 < (x.size : Int)
      · have KE := Lib.hid hj.keep
        clear hj
        go_wp2_with fail
        go_ret
        exact ⟨rfl, KE.out⟩
      obtain ⟨r, s', hr, hf', hl', hks'⟩ := HF.out.set (k := x) hlen (by omega) (by omega)
      have HF' := Lib.hid hf'
      have HSZ' := Lib.hid (show ∀ y ∈ l.take (i + 1), 1 ≤ y.size ∧ y.size ≤ 60 from fun y hy => by rw [HTK.out] at hy; exact (List.mem_append.1 hy).elim (HSZ.out y) fun h => by rw [List.mem_singleton.1 h]; omega)
      have HCNT := Lib.hid (show ((keys s'.U).filter (preB pfx)).length = ((keys s.U).filter (preB pfx)).length + (if preB pfx x = true ∧ x ∉ keys s.U then 1 else 0) by rw [hks']; exact pre_count HF.out.nd pfx x)
      have DO := Lib.hid (hj.does (by omega) ⟨2, x, ⟨#[118]⟩, 0, 0⟩ 1 (show x.size ≤ 1000000000 by omega) (show (⟨#[118]⟩ : ByteArray).size ≤ 1000000000 by decide) (show (2 : Int) ≠ 11 by decide) (show (2 : Int) ≠ 12 by decide) hr)
      have HKO := Lib.hid (skeyOf hkm)
      clear hj hr hf' hl' hks'
      by_cases hpre : preB pfx x = true
      · have hcond := (pre_iff pfx x).1 hpre
        obtain ⟨hc1, hc2⟩ := hcond
        have hcb := eq_toList hc2
        have hcm : ((keys s.U).filter (preB pfx)).length < maxLen := by
          have h1 := List.length_filter_le (preB pfx) (keys s.U)
          have h2 := HF.out.len
          have h3 : (keys s.U).length = s.U.length := by unfold keys; rw [List.length_map]
          unfold maxLen; omega
        have hc1' : ¬ (x.size : Int) < (pfx.size : Int) := by omega
        clear hc2
        go_wp2_with fail
        refine DO.out.mono ?_
        rintro e w3 ⟨rfl, hm3⟩
        have hmp : Mp w3 Tryz.prog 9 b ((keys s.U).filter (preB pfx)).length (setF ((l.take i).filter (preB pfx))) := by obtain ⟨o, _, h⟩ := hm3; exact h
        have M3 := Lib.hid hm3
        clear hm3 DO
        generalize ((keys s.U).filter (preB pfx)).length = cnt at *
        go_wp2_with (at_mapUpdate; refine wpList_store_mp _ rfl (.tmp 73) (.tmp 74) (.const (.bool true)) rfl skeyC Tryz.underlying49 rfl hmp hcm (.string x) (.bool true) (.string x.data.toList) rfl rfl HKO.out ?_; intro w4 hmp4 hk4; have M4 := Lib.hid (M3.out.put hmp4 hk4); clear hmp4 hk4; simp only [Act.put])
        go_roundg (gk - 1)
        case measure => omega
        case rel =>
          refine ⟨i + 1, s', by omega, by go_num, by rw [HTK.out]; exact HF'.out, HSZ'.out, ?_⟩
          have hcnt : (if (setF ((l.take i).filter (preB pfx)) (.string x.data.toList)).isSome = true then cnt else cnt + 1) = ((keys s'.U).filter (preB pfx)).length := by
            rw [HCNT.out]
            by_cases hmem : x ∈ l.take i
            · rw [setF_some (List.mem_filter.2 ⟨hmem, hpre⟩), if_pos (show (some (Value.bool true)).isSome = true from rfl), if_neg (fun h => h.2 ((HF.out.mem x).2 hmem))]; rfl
            · rw [setF_none (fun h => hmem (List.mem_filter.1 h).1), if_neg (by simp), if_pos ⟨hpre, fun h => hmem ((HF.out.mem x).1 h)⟩]
          have h4 := M4.out
          rw [hcnt] at h4
          refine MapC.ext h4 fun y => ?_
          rw [HTK.out, List.filter_append, List.filter_cons_of_pos hpre, List.filter_nil]
          exact setF_upd _ _ y
      · have hncond : ¬ (pfx.size ≤ x.size ∧ x.extract 0 pfx.size = pfx) := fun h => hpre ((pre_iff pfx x).2 h)
        have REL := Lib.hid (fun (W : World) (h : MapC w W c s' ((i : Int) + 1) b ((keys s.U).filter (preB pfx)).length (setF ((l.take i).filter (preB pfx)))) => (by
          have e1 : ((keys s'.U).filter (preB pfx)).length = ((keys s.U).filter (preB pfx)).length := by rw [HCNT.out, if_neg (fun h => hpre h.1), Nat.add_zero]
          have e2 : (l.take (i + 1)).filter (preB pfx) = (l.take i).filter (preB pfx) := by rw [HTK.out, List.filter_append, List.filter_cons_of_neg hpre, List.filter_nil, List.append_nil]
          rw [e1, e2]
          exact h : MapC w W c s' ((i : Int) + 1) b ((keys s'.U).filter (preB pfx)).length (setF ((l.take (i + 1)).filter (preB pfx)))))
        by_cases hc1 : pfx.size ≤ x.size
        · have hcb := ne_toList (fun h => hncond ⟨hc1, h⟩)
          have hc1' : ¬ (x.size : Int) < (pfx.size : Int) := by omega
          go_wp2_with fail
          refine DO.out.mono ?_
          rintro e w3 ⟨rfl, hm3⟩
          have M3 := Lib.hid hm3
          clear hm3 DO
          go_wp2_with fail
          go_roundg (gk - 1)
          case measure => omega
          case rel => exact ⟨i + 1, s', by omega, by go_num, by rw [HTK.out]; exact HF'.out, HSZ'.out, REL.out _ M3.out⟩
        · have hc1' : (x.size : Int) < (pfx.size : Int) := by omega
          go_wp2_with fail
          refine DO.out.mono ?_
          rintro e w3 ⟨rfl, hm3⟩
          have M3 := Lib.hid hm3
          clear hm3 DO
          go_wp2_with fail
          go_roundg (gk - 1)
          case measure => omega
          case rel => exact ⟨i + 1, s', by omega, by go_num, by rw [HTK.out]; exact HF'.out, HSZ'.out, REL.out _ M3.out⟩
    · obtain rfl : n = i := by omega
      have htk : l.take n = l := by rw [HN.out]; exact List.take_length
      rw [htk] at HF HSZ hj
      obtain ⟨o, hown, hmp⟩ := hj
      rw [← preL_length] at hmp
      have hob := (hown.2.box (b, o) (.head _)).1
      have HPS := Lib.hid (preL_strict HF.out.nd pfx)
      have HPK := Lib.hid (show ∀ k ∈ preL s.U pfx, 1 ≤ k.size ∧ k.size ≤ 60 ∧ k ∈ l.filter (preB pfx) from fun k hk => by
        have h := preL_mem.1 hk
        have h1 := (HF.out.mem k).1 h.1
        exact ⟨(HSZ.out k h1).1, (HSZ.out k h1).2, List.mem_filter.2 ⟨h1, h.2⟩⟩)
      have HPG := Lib.hid (show ∀ (last : ByteArray) (g : Nat), LastS (preL s.U pfx) g last → last.size ≤ 60 ∧ doC s ⟨11, pfx, last, q, 0⟩ 1 = (⟨0, ⟨#[]⟩, 0, 0, ((preL s.U pfx).drop g).take q⟩, s) from fun last g h => by
        have hls : last.size ≤ 60 := by
          rcases h with ⟨_, rfl⟩ | ⟨h1, _, rfl⟩
          · decide
          · exact (HPK.out _ (List.getElem_mem h1)).2.1
        refine ⟨hls, ?_⟩
        rw [HF.out.scan (by omega) (by omega) (by omega) (by omega), Int.toNat_natCast, scan_part HF.out.nd pfx last q g]
        rcases h with ⟨rfl, rfl⟩ | h
        · exact .inl ⟨rfl, fun k hk => empty_below (HPK.out k hk).1⟩
        · exact .inr h)
      have hPL : (preL s.U pfx).length ≤ n := by
        have h1 := List.length_filter_le (preB pfx) (keys s.U)
        have h2 := HF.out.len
        have h3 : (keys s.U).length = s.U.length := by unfold keys; rw [List.length_map]
        have h4 := preL_length s.U pfx
        have := HN.out
        omega
      generalize preL s.U pfx = P at *
      have MP := Lib.hid (fun (W : World) (h : W.heap[b]? = some o) => hmp.same (w' := W) (h.trans hob.symm))
      have OW := Lib.hid hown
      clear hown hmp hob htk
      go_wp2_with fail
      go_loopg [11, 12, 13] (n + 1) (fun gk lv gv iv wr => ∃ (i g : Nat) (last : ByteArray) (B : List (Nat × Obj)), i + gk = n + 1 ∧ lv = .string last ∧ gv = .int .i64 (g : Int) ∧ iv = .int .i64 (i : Int) ∧ i ≤ g ∧ g ≤ P.length ∧ LastS P g last ∧ (b, o) ∈ B ∧ OwnC w wr c s ((n : Int) + i) B)
      case atStart => exact ⟨0, 0, ⟨#[]⟩, [(b, o)], by omega, rfl, rfl, rfl, by omega, by omega, .inl ⟨rfl, rfl⟩, .head _, OW.out.le (by omega)⟩
      case round =>
        obtain ⟨i, g, last, B, hi2, rfl, rfl, rfl, hig, hgP, hls, hin, how⟩ := hrel
        clear OW
        by_cases hlt2 : i ≤ n
        · obtain ⟨hlz, hscan⟩ := HPG.out last g hls
          have HLS := Lib.hid hls
          obtain ⟨pg, hpg⟩ : ∃ pg, pg = (P.drop g).take q := ⟨_, rfl⟩
          rw [← hpg] at hscan
          obtain ⟨hpl1, hpl2, hpl3⟩ : pg.length ≤ q ∧ g + pg.length ≤ P.length ∧ (pg.length < q → g + pg.length = P.length) := by
            have h : pg.length = min q (P.length - g) := by rw [hpg, List.length_take, List.length_drop]
            omega
          have HPL3 := Lib.hid hpl3
          clear hpl3
          have HPE := Lib.hid (show ∀ (j : Nat) (hj : j < pg.length), ∃ h : g + j < P.length, pg[j] = P[g + j] from fun j hj => ⟨by omega, by subst hpg; rw [List.getElem_take, List.getElem_drop]⟩)
          have DO := Lib.hid (own_doA how (by omega) ⟨11, pfx, last, q, 0⟩ 1 (show pfx.size ≤ 1000000000 by omega) (show last.size ≤ 1000000000 by omega) hscan)
          have HIN := Lib.hid hin
          clear hls hscan hpg how hin
          go_wp2_with fail
          refine DO.out.mono ?_
          rintro e w3 ⟨kv, B3, rfl, o3, hB3, hh3, ao3, ca3, rfl⟩
          have O4 := Lib.hid (o3.alloc (rpO ⟨0, ⟨#[]⟩, 0, 0, pg⟩ (.slice ao3 pg.length ca3)))
          have IN4 := Lib.hid (show (b, o) ∈ ((w3.heap.size, rpO ⟨0, ⟨#[]⟩, 0, 0, pg⟩ (.slice ao3 pg.length ca3)) :: B3) from .tail _ (hB3 _ HIN.out))
          have HH4 := Lib.hid (hh3.more (B' := ((w3.heap.size, rpO ⟨0, ⟨#[]⟩, 0, 0, pg⟩ (.slice ao3 pg.length ca3)) :: B3)) fun p hp => .tail _ hp)
          have IR4 := Lib.hid (show (w3.heap.size, rpO ⟨0, ⟨#[]⟩, 0, 0, pg⟩ (.slice ao3 pg.length ca3)) ∈ ((w3.heap.size, rpO ⟨0, ⟨#[]⟩, 0, 0, pg⟩ (.slice ao3 pg.length ca3)) :: B3) from .head _)
          clear o3 hB3 hh3 DO
          have hpq : ¬ (q : Int) < (pg.length : Int) := by omega
          go_wp2_with fail
          clear hpq
          go_loopg [11, 12, 101] pg.length (fun gk lv gv jv wr => ∃ (j : Nat) (last : ByteArray), j + gk = pg.length ∧ lv = .string last ∧ gv = .int .i64 ((g + j : Nat) : Int) ∧ jv = .int .i64 (j : Int) ∧ LastS P (g + j) last ∧ OwnC w wr c s ((n : Int) + i + 1) ((w3.heap.size, rpO ⟨0, ⟨#[]⟩, 0, 0, pg⟩ (.slice ao3 pg.length ca3)) :: B3))
          case atStart => exact ⟨0, last, by omega, rfl, rfl, rfl, HLS.out, O4.out⟩
          case round =>
            obtain ⟨j, last, hj2, rfl, rfl, rfl, hls, how⟩ := hrel
            clear O4
            by_cases hjl : j < pg.length
            · obtain ⟨g3, off3, hao, y0⟩ := rd_str' (Rd.of_sl (HH4.out _ fun p hp => (how.2.box p hp).1)) j hjl
              subst hao
              obtain ⟨hgj, hpe⟩ := HPE.out j hjl
              rw [hpe] at y0
              have hkx := HPK.out _ (List.getElem_mem hgj)
              have hblt := hls.below HPS.out (fun k hk => (HPK.out k hk).1) hgj
              have HNX := Lib.hid (LastS.next hgj)
              have hlook := set_look (MP.out _ (how.2.box _ IN4.out).1) hkx.2.2 (by have := hkx.2.1; unfold maxLen; omega)
              obtain ⟨l1, l2⟩ := blt_true hblt
              have HO := Lib.hid how
              clear hls how hpe hkx hblt
              generalize P[g + j] = kx at *
              go_wp2_with fail
              go_roundg (gk - 1)
              case measure => omega
              case rel => exact ⟨j + 1, kx, by omega, rfl, by go_num, by go_num, HNX.out, HO.out⟩
            · obtain rfl : pg.length = j := by omega
              obtain ⟨_, _, _, _, p4, _⟩ := rp_facts (how.2.box _ IR4.out).1
              simp only at p4
              have hlenm := Mp.len (MP.out _ (how.2.box _ IN4.out).1) Tryz.underlying49 3
              have HO := Lib.hid how
              have HLS2 := Lib.hid hls
              clear how hls
              by_cases hpq : pg.length < q
              · have hfin : g + pg.length = P.length := HPL3.out hpq
                have KE := Lib.hid HO.out.keep
                rw [hfin]
                go_wp2_with fail
                go_ret
                exact ⟨by first | rfl | (simp; done), KE.out⟩
              · go_wp2_with fail
                go_roundg (n - i)
                case measure => omega
                case rel => exact ⟨i + 1, g + pg.length, last, _, by omega, rfl, by first | rfl | go_num, by go_num, by omega, by omega, HLS2.out, IN4.out, HO.out.le (by omega)⟩
        · exfalso
          omega
end Go.Proofs.YtehpafebpgndeaaGreatDoor
