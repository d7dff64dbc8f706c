/-
  CacheFlushes: all go at once; versions go on; what was used is told: the walk.
-/
import Derived.Test.YtehpafebpgndeaaGreatDoorSetF
namespace Go.Proofs.YtehpafebpgndeaaGreatDoor
set_option linter.unusedVariables false
set_option linter.unusedSimpArgs false
set_option linter.unnecessarySimpa false
open Go.RowKit
set_option maxRecDepth 100000

theorem rd_str' {w : World} {l : List ByteArray} {ao : Option Addr} {m c n : Nat} (h : Rd w 1 n (.slice ao m c) (l.map Value.string)) (i : Nat) (hi : i < l.length) : ∃ g off, ao = some ⟨g, off, none⟩ ∧ w.cell? ⟨g, off + i, none⟩ = some (.string l[i]) := by
  obtain ⟨_, _, hc⟩ := h.at
  exact hc i _ (by simp [hi])
set_option maxHeartbeats 8000000 in
theorem cacheFlushes_walk (l : List ByteArray) (ao : Option Addr) (ca : Nat) (w : World) (hL : Laid w) (hx : Rd w 1 l.length (.slice ao l.length ca) (l.map Value.string)) (hxb : ∀ y ∈ l, y.size ≤ maxLen) :
    Calls Tryz.prog 13 #[.slice ao l.length ca] w fun e w' => e = .returned (.bool true) ∧ Kept (fun _ => False) w w' := by
  have AL := Lib.hid (alive_true w hL)
  have HL := Lib.hid hL
  clear hL
  by_cases g1 : 40 < l.length
  · go_enter Tryz.func13, Tryz.ntmps13
    go_wp2_with fail
    refine AL.out.mono ?_
    rintro e w1 ⟨rfl, hk⟩
    have HK := Lib.hid hk
    clear hk
    go_wp2_with fail
    go_ret
    exact ⟨rfl, HK.out⟩
  have HX := Lib.hid hx
  have HXB := Lib.hid hxb
  clear hx hxb
  obtain ⟨n, hn⟩ : ∃ n, n = l.length := ⟨_, rfl⟩
  rw [← hn] at g1 HX ⊢
  have HN := Lib.hid hn
  clear hn
  go_enter Tryz.func13, Tryz.ntmps13
  go_wp2_with fail
  refine AL.out.mono ?_
  rintro e w1 ⟨rfl, hk⟩
  have NEW := Lib.hid (own_newc hk HL.out 100000 (by decide) (by decide))
  clear hk
  go_wp2_with fail
  refine NEW.out.mono ?_
  rintro e w2 ⟨c, rfl, o2⟩
  have M2 := Lib.hid (MapC.made o2)
  have hmm := @run_makeMap Tryz.prog
  obtain ⟨b, hb⟩ : ∃ b, w2.heap.size = b := ⟨_, rfl⟩
  rw [hb] at M2
  clear o2 NEW
  go_wp2_with fail
  go_loopg [24] n (fun gk k wr => ∃ (i : Nat) (s : CSt), i + gk = n ∧ k = .int .i64 (i : Int) ∧ FlS (l.take i) s ∧ MapC w wr c s i b s.U.length (setF (l.take i)))
  case atStart => exact ⟨0, newC 100000, by omega, rfl, FlS.start, M2.out⟩
  case round =>
    obtain ⟨i, s, hi, rfl, hf, hj⟩ := hrel
    have HF := Lib.hid hf
    clear hf M2 hb
    by_cases hlt : i < n
    · have hil : i < l.length := by rw [← HN.out]; exact hlt
      obtain ⟨g, off, rfl, x0⟩ := rd_str' (HX.out.kept hj.keep (fun _ _ h => h)) i hil
      have hkm := HXB.out _ (List.getElem_mem hil)
      have HTK := Lib.hid (show l.take (i + 1) = l.take i ++ [l[i]] from List.take_succ_eq_append_getElem hil)
      have hlen : (l.take i).length < 40 := by rw [List.length_take]; omega
      generalize (l[i]'hil) = x at *
      by_cases b0 : (x.size : Int) < 1
      · have KE := Lib.hid hj.keep
        clear hj
        go_wp2_with fail
        go_ret
        exact ⟨rfl, KE.out⟩
      by_cases b1 : 60 < (x.size : Int)
      · have KE := Lib.hid hj.keep
        clear hj
        go_wp2_with fail
        go_ret
        exact ⟨rfl, KE.out⟩
      obtain ⟨r, s', hr, hf', hl', hks'⟩ := HF.out.set (k := x) hlen (by omega) (by omega)
      have HF' := Lib.hid hf'
      have HL' := Lib.hid hl'
      have DO := Lib.hid (hj.does (by omega) ⟨2, x, ⟨#[118]⟩, 0, 0⟩ 1 (show x.size ≤ 1000000000 by omega) (show (⟨#[118]⟩ : ByteArray).size ≤ 1000000000 by decide) (show (2 : Int) ≠ 11 by decide) (show (2 : Int) ≠ 12 by decide) hr)
      have HKO := Lib.hid (skeyOf hkm)
      have hcm : s.U.length < maxLen := by have := HF.out.len; unfold maxLen; omega
      clear hj hr hf' hl' hks'
      go_wp2_with fail
      refine DO.out.mono ?_
      rintro e w3 ⟨rfl, hm3⟩
      have hmp : Mp w3 Tryz.prog 9 b s.U.length (setF (l.take i)) := by obtain ⟨o, _, h⟩ := hm3; exact h
      have M3 := Lib.hid hm3
      clear hm3 DO
      go_wp2_with (at_mapUpdate; refine wpList_store_mp _ rfl (.tmp 40) (.tmp 41) (.const (.bool true)) rfl skeyC Tryz.underlying49 rfl hmp hcm (.string x) (.bool true) (.string x.data.toList) rfl rfl HKO.out ?_; intro w4 hmp4 hk4; have M4 := Lib.hid (M3.out.put hmp4 hk4); clear hmp4 hk4; simp only [Act.put])
      go_roundg (gk - 1)
      case measure => omega
      case rel =>
        refine ⟨i + 1, s', by omega, by go_num, by rw [HTK.out]; exact HF'.out, ?_⟩
        have hcnt : (if (setF (l.take i) (.string x.data.toList)).isSome = true then s.U.length else s.U.length + 1) = s'.U.length := by
          rw [HL'.out]
          by_cases hmem : x ∈ l.take i
          · rw [setF_some hmem, if_pos hmem]; rfl
          · rw [setF_none hmem, if_neg hmem]; rfl
        have h4 := M4.out
        rw [hcnt] at h4
        refine MapC.ext h4 fun y => ?_
        rw [HTK.out]
        exact setF_upd _ _ y
    · obtain rfl : n = i := by omega
      have htk : l.take n = l := by rw [HN.out]; exact List.take_length
      rw [htk] at HF hj
      obtain ⟨o, hown, hmp⟩ := hj
      have HFF := HF.out
      have hlen := HFF.len
      have h18 := HFF.used18
      have DO1 := Lib.hid (own_doA hown (by omega) ⟨13, ⟨#[]⟩, ⟨#[]⟩, 0, 0⟩ 1 (show (⟨#[]⟩ : ByteArray).size ≤ 1000000000 by decide) (show (⟨#[]⟩ : ByteArray).size ≤ 1000000000 by decide) HFF.stats)
      have hob := (hown.2.box (b, o) (.head _)).1
      have MP := Lib.hid (fun (W : World) (h : W.heap[b]? = some o) => hmp.same (w' := W) (h.trans hob.symm))
      clear hown hmp HFF htk hob
      generalize hUL : s.U.length = UL at *
      generalize usedL s.U = US at *
      go_wp2_with fail
      refine DO1.out.mono ?_
      rintro e w3 ⟨kv3, B3, rfl, o3, hB3, -, ao3, ca3, rfl⟩
      have o4 := o3.alloc (rpO ⟨0, ⟨#[]⟩, UL, US, []⟩ (.slice ao3 0 ca3))
      have IN4 := Lib.hid (show (b, o) ∈ ((w3.heap.size, rpO ⟨0, ⟨#[]⟩, UL, US, []⟩ (.slice ao3 0 ca3)) :: B3) from .tail _ (hB3 _ (.head _)))
      have flush := HF.out.flush
      rw [hUL] at flush
      have DO2 := Lib.hid (own_doA o4 (by omega) ⟨12, ⟨#[]⟩, ⟨#[]⟩, 0, 0⟩ 1 (show (⟨#[]⟩ : ByteArray).size ≤ 1000000000 by decide) (show (⟨#[]⟩ : ByteArray).size ≤ 1000000000 by decide) flush)
      clear o3 o4 hB3 DO1 flush
      go_wp2_with fail
      refine DO2.out.mono ?_
      rintro e w5 ⟨kv5, B5, rfl, o5, hB5, -, ao5, ca5, rfl⟩
      have IN5 := Lib.hid (hB5 _ IN4.out)
      obtain ⟨f0, f1, f2, f3, f4, f5⟩ := rp_facts (o5.2.box _ (hB5 _ (.head _))).1
      simp only at f0 f1 f2 f3 f4
      have INR := Lib.hid (hB5 _ (.head _))
      have O6 := Lib.hid (o5.alloc (rpO ⟨0, ⟨#[]⟩, UL, 0, []⟩ (.slice ao5 0 ca5)))
      have DO3 := Lib.hid (own_do O6.out (by omega) ⟨2, ⟨#[107]⟩, ⟨#[118]⟩, 0, 0⟩ 1 (show (⟨#[107]⟩ : ByteArray).size ≤ 1000000000 by decide) (show (⟨#[118]⟩ : ByteArray).size ≤ 1000000000 by decide) (show (2 : Int) ≠ 11 by decide) (show (2 : Int) ≠ 12 by decide) (FlS.last (n := l.length)))
      clear o5 hB5 DO2 f0 f1 f2 f3 f4 f5
      rw [← HN.out] at DO3
      go_wp2_with fail
      refine DO3.out.mono ?_
      rintro e w7 ⟨rfl, o7⟩
      obtain ⟨f0, f1, f2, f3, f4, f5⟩ := rp_facts (o7.2.box (w5.heap.size, rpO ⟨0, ⟨#[]⟩, UL, 0, []⟩ (.slice ao5 0 ca5)) (.head _)).1
      obtain ⟨p0, p1, p2, p3, p4, p5⟩ := rp_facts (o7.2.box (w3.heap.size, rpO ⟨0, ⟨#[]⟩, UL, US, []⟩ (.slice ao3 0 ca3)) (.tail _ INR.out)).1
      simp only at f0 f1 f2 f3 f4 p0 p1 p2 p3 p4
      have hmp7 := MP.out w7 (o7.2.box (b, o) (.tail _ IN5.out)).1
      have O8 := Lib.hid (o7.alloc (rpO ⟨0, ⟨#[]⟩, 0, (n : Int) + 1, []⟩ (.slice none 0 0)))
      have hlenm := Mp.len (hmp7.kept (((Kept.refl (fun _ => False) w7).alloc (.cells #[.int .i64 0, .string { data := #[] }, .int .i64 0, .int .i64 ((n : Int) + 1), .slice none 0 0] 36))) (fun h => h)) Tryz.underlying49 3
      clear o7 DO3 MP hmp7 f0 f1 f3 f4 p0 p1 p4
      have GO := Lib.hid (own_gone O8.out)
      have IT := Lib.hid (own_items O8.out)
      have hULn : UL ≤ n := by have := HN.out; omega
      have hw18 : wrap64 (18 * (UL : Int)) = 18 * (UL : Int) := by unfold wrap64; omega
      have h18n : ¬ US < 18 * (UL : Int) := by omega
      go_wp2_with fail
      clear hw18
      refine GO.out.mono ?_
      rintro e w9 ⟨rfl, rfl⟩
      go_wp2_with fail
      refine IT.out.mono ?_
      rintro e w9 ⟨v9, B9, rfl, o9, hB9, -, ao9, ca9, rfl⟩
      have KE := Lib.hid o9.keep
      clear o9 hB9 IT GO
      go_wp2_with fail
      go_ret
      exact ⟨by first | rfl | (simp; done), KE.out⟩
end Go.Proofs.YtehpafebpgndeaaGreatDoor
