/-
  CacheErrs: what is refused changes nothing: the walk.
-/
import Derived.Test.YtehpafebpgndeaaGreatDoorCachePut
import Derived.Test.YtehpafebpgndeaaGreatDoorSameItems
import Derived.Test.YtehpafebpgndeaaGreatDoorCmArg
namespace Go.Proofs.YtehpafebpgndeaaGreatDoor
set_option linter.unusedVariables false
set_option linter.unusedSimpArgs false
set_option linter.unnecessarySimpa false
open Go.RowKit
set_option maxRecDepth 100000

set_option maxHeartbeats 8000000 in
theorem cacheErrs_walk (x : Cm) (now : Int) (w : World) (hL : Laid w) (hx : CmB x) (hn0 : -9223372036854775808 ≤ now) (hn1 : now ≤ 9223372036854775807) :
    Calls Tryz.prog 17 #[.agg #[.int .i64 x.op, .string x.key, .string x.val, .int .i64 x.num, .int .i64 x.ver], .int .i64 now] w fun e w' => e = .returned (.bool true) ∧ Kept (fun _ => False) w w' := by
  have AL := Lib.hid (fun o => alive_true (w.alloc o) (hL.kept0 ((Kept.refl _ w).alloc o)))
  have HL := Lib.hid hL
  clear hL
  by_cases g1 : 100 < (x.key.size : Int)
  · go_enter Tryz.func17, Tryz.ntmps17
    go_wp2_with fail
    refine (AL.out _).mono ?_
    rintro e w1 ⟨rfl, hk⟩
    have HK := Lib.hid (((Kept.refl (fun _ => False) w).alloc _).trans hk (fun _ _ h => h))
    clear hk
    go_wp2_with fail
    go_ret
    exact ⟨rfl, HK.out⟩
  by_cases g2 : 600 < (x.val.size : Int)
  · go_enter Tryz.func17, Tryz.ntmps17
    go_wp2_with fail
    refine (AL.out _).mono ?_
    rintro e w1 ⟨rfl, hk⟩
    have HK := Lib.hid (((Kept.refl (fun _ => False) w).alloc _).trans hk (fun _ _ h => h))
    clear hk
    go_wp2_with fail
    go_ret
    exact ⟨rfl, HK.out⟩
  have PUT := Lib.hid (fun o W hk => putF_any 300 6 4 (w.alloc o) W hk (HL.out.kept0 ((Kept.refl _ w).alloc o)) (by decide) (by decide) (by decide) (by decide) (by decide))
  have US6 := Lib.hid (show usedL (rowU (putIt 4) 6) = 132 by rw [rowU_used (putIt_cost 4)]; rfl)
  have LEN6 := Lib.hid (rowU_length (putIt 4) 6)
  have ST6 := Lib.hid (show ∀ y ∈ (⟨300, rowU (putIt 4) 6, 6, 0⟩ : CSt).U, y.til = 0 from fun y hy => by obtain ⟨j, _, rfl⟩ := List.mem_map.1 hy; rfl)
  obtain ⟨r, s', hr⟩ : ∃ r s', doC ⟨300, rowU (putIt 4) 6, 6, 0⟩ x now = (r, s') := ⟨_, _, rfl⟩
  have HR := Lib.hid hr
  have OUT := Lib.hid (fun h => (doC_out (s := ⟨300, rowU (putIt 4) 6, 6, 0⟩) (x := x) (now := now) (.inr h)))
  have ERR := Lib.hid (fun h => doC_err (s := ⟨300, rowU (putIt 4) 6, 6, 0⟩) (x := x) (now := now) ST6.out h)
  have AFTER := Lib.hid errs_after
  clear hr hx
  go_enter Tryz.func17, Tryz.ntmps17
  go_wp2_with fail
  refine (AL.out _).mono ?_
  rintro e w1 ⟨rfl, hk⟩
  have PUT1 := Lib.hid (PUT.out _ _ hk)
  obtain ⟨W0, hW0⟩ : ∃ W0, W0 = w.alloc (.cells #[.int .i64 x.op, .string x.key, .string x.val, .int .i64 x.num, .int .i64 x.ver] 32) := ⟨_, rfl⟩
  rw [← hW0] at PUT1
  obtain ⟨xb, hxb⟩ : ∃ b, w.heap.size = b := ⟨_, rfl⟩
  have h0 : W0.heap[xb]? = some (cmO x) := by rw [hW0, ← hxb]; exact heap_alloc_new w _
  have CM := Lib.hid (fun (W : World) (hk : Kept (fun _ => False) W0 W) => cm_facts ((hk.block xb (lt_of_block h0) (fun h => h)).trans h0))
  have KW := Lib.hid (show Kept (fun _ => False) w W0 from hW0 ▸ (Kept.refl _ w).alloc _)
  have HXB := Lib.hid hxb
  clear hk PUT hxb hW0 h0
  go_wp2_with fail
  rw [HXB.out]
  clear HXB
  refine PUT1.out.mono ?_
  rintro e w2 ⟨c, rfl, o2⟩
  have IT := Lib.hid (own_items o2)
  clear o2 PUT1
  go_wp2_with fail
  refine IT.out.mono ?_
  rintro e w3 ⟨v3, B3, rfl, o3, hB3, hh3, ao3, ca3, rfl⟩
  have ORD := Lib.hid (own_order o3)
  have HH3 := Lib.hid hh3
  clear o3 hB3 hh3 IT
  go_wp2_with fail
  refine ORD.out.mono ?_
  rintro e w4 ⟨v4, B4, rfl, o4, hB4, -, ao4, ca4, rfl⟩
  have HH4 := Lib.hid (HH3.out.more hB4)
  have US := Lib.hid (own_used o4)
  have O4 := Lib.hid o4
  clear o4 hB4 ORD HH3
  go_wp2_with fail
  refine US.out.mono ?_
  rintro e w5 ⟨rfl, rfl⟩
  simp only
  rw [US6.out]
  obtain ⟨m0, m1, m2, m3, m4, m5⟩ := CM.out w4 O4.out.keep
  have DO := Lib.hid (own_doA O4.out (by decide) x now (by omega) (by omega) HR.out)
  clear US
  go_wp2_with fail
  refine DO.out.mono ?_
  rintro e w5 ⟨kv, B5, rfl, o5, hB5, -, ao5, ca5, rfl⟩
  have HH5 := Lib.hid (HH4.out.more hB5)
  have O5 := Lib.hid (o5.alloc (rpO r (.slice ao5 r.keys.length ca5)))
  clear o5 hB5 DO HH4 m0 m1 m2 m3 m4 m5
  by_cases he : r.errno = 0
  · obtain ⟨re, rv, rn, rve, rk⟩ := r
    simp only at he
    subst he
    have KE := Lib.hid (KW.out.trans O5.out.keep (fun _ _ h => h))
    go_wp2_with fail
    all_goals
      go_ret
      exact ⟨by first | rfl | (simp; done), KE.out⟩
  · have heb : (r.errno == 0) = false := by simpa using he
    by_cases hout : now < 0 ∨ 1000000000000 < now
    · have hr2 := OUT.out hout
      rw [HR.out] at hr2
      injection hr2 with hr2 hs2
      subst hr2 hs2
      have IT2 := Lib.hid (own_items O5.out)
      have hrest : now < 0 ∨ (¬ now < 0 ∧ 1000000000000 < now) := by omega
      rcases hrest with hA | ⟨hA, hB⟩
      · go_wp2_with fail
        refine IT2.out.mono ?_
        rintro e w6 ⟨v6, B6, rfl, o6, hB6, hh6, ao6, ca6, rfl⟩
        have hl6 := LEN6.out
        have SAME := Lib.hid (sameItems_true (.slice ao6 (rowU (putIt 4) 6).length ca6) (.slice ao3 (rowU (putIt 4) 6).length ca3) (itemsL (rowU (putIt 4) 6)) w6 (by rw [itemsL_length]; exact Rd.of_sl (o6.held hh6)) (by rw [itemsL_length]; exact Rd.of_sl (o6.held ((HH5.out.more (fun p hp => .tail _ hp)).more hB6))) (by rw [itemsL_length, hl6]; decide))
        have KE := Lib.hid (KW.out.trans o6.keep (fun _ _ h => h))
        clear o6 hB6 hh6 IT2
        go_wp2_with fail
        refine SAME.out.mono ?_
        rintro e w7 ⟨rfl, q, rfl⟩
        go_wp2_with fail
        go_ret
        exact ⟨rfl, KE.out.drewN q⟩
      · go_wp2_with fail
        refine IT2.out.mono ?_
        rintro e w6 ⟨v6, B6, rfl, o6, hB6, hh6, ao6, ca6, rfl⟩
        have hl6 := LEN6.out
        have SAME := Lib.hid (sameItems_true (.slice ao6 (rowU (putIt 4) 6).length ca6) (.slice ao3 (rowU (putIt 4) 6).length ca3) (itemsL (rowU (putIt 4) 6)) w6 (by rw [itemsL_length]; exact Rd.of_sl (o6.held hh6)) (by rw [itemsL_length]; exact Rd.of_sl (o6.held ((HH5.out.more (fun p hp => .tail _ hp)).more hB6))) (by rw [itemsL_length, hl6]; decide))
        have KE := Lib.hid (KW.out.trans o6.keep (fun _ _ h => h))
        clear o6 hB6 hh6 IT2
        go_wp2_with fail
        refine SAME.out.mono ?_
        rintro e w7 ⟨rfl, q, rfl⟩
        go_wp2_with fail
        go_ret
        exact ⟨rfl, KE.out.drewN q⟩
    · have hA : ¬ now < 0 := fun h => hout (.inl h)
      have hB : ¬ 1000000000000 < now := fun h => hout (.inr h)
      obtain ⟨e0, hr2⟩ := ERR.out (by rw [HR.out]; exact he)
      rw [HR.out] at hr2
      injection hr2 with hr2 hs2
      subst hr2 hs2
      simp only [rp_errno] at heb he
      obtain ⟨s2, hr3, hu3, hl3⟩ := AFTER.out
      have DO2 := Lib.hid (own_do O5.out (by omega) ⟨2, ⟨#[107, 5]⟩, ⟨#[119, 120, 121, 122]⟩, 0, 0⟩ (1) (show (⟨#[107, 5]⟩ : ByteArray).size ≤ 1000000000 by decide) (show (⟨#[119, 120, 121, 122]⟩ : ByteArray).size ≤ 1000000000 by decide) (show (2 : Int) ≠ 11 by decide) (show (2 : Int) ≠ 12 by decide) hr3)
      have HU3 := Lib.hid hu3
      have HL3 := Lib.hid hl3
      clear hr3 hu3 hl3 AFTER
      go_wp2_with fail
      refine DO2.out.mono ?_
      rintro e w6 ⟨rfl, o6⟩
      obtain ⟨f0, f1, f2, f3, f4, f5⟩ := rp_facts (o6.2.box (w5.heap.size, rpO (Rp.err e0) (.slice ao5 (Rp.err e0).keys.length ca5)) (.head _)).1
      have O6 := Lib.hid (o6.alloc (rpO ⟨0, ⟨#[]⟩, 0, 7, []⟩ (.slice none 0 0)))
      clear o6 DO2
      simp only [rp_errno, rp_val, rp_num, rp_ver, rp_keys, List.length_nil] at f0 f1 f2 f3 f4
      have US2 := Lib.hid (own_used O6.out)
      have IT2 := Lib.hid (own_items O6.out)
      rw [HU3.out] at US2
      go_wp2_with fail
      refine US2.out.mono ?_
      rintro e w7 ⟨rfl, rfl⟩
      go_wp2_with fail
      refine IT2.out.mono ?_
      rintro e w8 ⟨v8, B8, rfl, o8, hB8, -, ao8, ca8, rfl⟩
      have ORD2 := Lib.hid (own_order o8)
      clear o8 hB8 IT2 US2
      rw [HL3.out] at ORD2 ⊢
      rw [LEN6.out]
      go_wp2_with fail
      refine ORD2.out.mono ?_
      rintro e w9 ⟨v9, B9, rfl, o9, hB9, -, ao9, ca9, rfl⟩
      have KE := Lib.hid (KW.out.trans o9.keep (fun _ _ h => h))
      clear o9 hB9
      go_wp2_with fail
      go_ret
      exact ⟨by first | rfl | (simp; done), KE.out⟩
end Go.Proofs.YtehpafebpgndeaaGreatDoor
