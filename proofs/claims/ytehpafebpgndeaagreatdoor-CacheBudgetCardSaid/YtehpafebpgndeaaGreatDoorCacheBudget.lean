/-
  CacheBudget: whatever is written: never more is used than may be: the walk.
-/
import Derived.Test.YtehpafebpgndeaaGreatDoorCacheW
import Derived.Test.YtehpafebpgndeaaGreatDoorSameTexts
namespace Go.Proofs.YtehpafebpgndeaaGreatDoor
set_option linter.unusedVariables false
set_option linter.unusedSimpArgs false
set_option linter.unnecessarySimpa false
open Go.RowKit
set_option maxRecDepth 100000

theorem rd_str' {w : World} {l : List ByteArray} {ao : Option Addr} {m c n : Nat} (h : Rd w 1 n (.slice ao m c) (l.map Value.string)) (i : Nat) (hi : i < l.length) : ∃ g off, ao = some ⟨g, off, none⟩ ∧ w.cell? ⟨g, off + i, none⟩ = some (.string l[i]) := by
  obtain ⟨_, _, hc⟩ := h.at
  exact hc i _ (by simp [hi])
/-- The slice reads so wherever the boxes stand. -/
def HeldR (B : List (Nat × Obj)) (v : Value) (ks : List ByteArray) : Prop := ∀ W : World, (∀ p ∈ B, W.heap[p.1]? = some p.2) → Rd W 1 ks.length v (ks.map Value.string)
theorem HeldR.more {B B' : List (Nat × Obj)} {v : Value} {ks : List ByteArray} (h : HeldR B v ks) (hB : ∀ p ∈ B, p ∈ B') : HeldR B' v ks := fun W hW => h W fun p hp => hW p (hB p hp)
section
variable {w0 w w' : World} {c : Nat} {s : CSt} {m : Int} {B : List (Nat × Obj)} {v : Value} {ks : List ByteArray}
theorem OwnC.reads (h : OwnC w0 w c s m B) (hh : HeldR B v ks) : Rd w 1 ks.length v (ks.map Value.string) := hh w fun p hp => (h.2.box p hp).1
theorem OwnC.bare (h : OwnC w0 w c s m B) : OwnC w0 w c s m [] := by
  obtain ⟨O', h1, h2, _⟩ := h.2.cs
  exact ⟨h.1, ⟨O', h1, h2, fun p hp => by cases hp⟩, (fun p hp => by cases hp), h.2.gl, List.nodup_nil⟩
theorem OwnC.holdStrs (h : OwnC w0 w c s m B) (hs : Strs w w' v ks) : ∃ B', OwnC w0 w' c s m B' ∧ HeldS B' 9 1 ks.length v (strs ks) := by
  obtain ⟨O1, h1, h2, _⟩ := h.2.cs
  obtain ⟨B', b1, _, b3⟩ := (h.bare.kept0 hs.2.1).hold hs.1 fun k hk => ⟨by have := hs.2.2 k hk; have := h2.1.size; omega, (fun p hp => by cases hp), O1, h1.kept0 hs.2.1, h2.kept hs.2.1, (fun p hp => by cases hp), fun hO => by have := h1.lt hO; have := hs.2.2 k hk; omega⟩
  exact ⟨B', b1, b3⟩
end
theorem HeldS.cut {B : List (Nat × Obj)} {g off cap L K : Nat} {xs : List ByteArray} {ks : List ByteArray} (h : HeldS B 9 1 L (.slice (some ⟨g, off, none⟩) L cap) (strs xs)) (hL : xs.length = L) (hK : ks.length = K) (hs : ks <:+ xs) (hc : L ≤ cap) : HeldR B (.slice (some ⟨g, off + (L - K), none⟩) K (cap - (L - K))) ks := by
  intro W hW
  have hle : K ≤ L := by rw [← hK, ← hL]; exact hs.length_le
  have h1 := (Rd.of_sl (h W hW)).cut (L - K) L (cap - (L - K)) (by omega) (Nat.le_refl _) (by omega)
  have hd : xs.drop (L - K) = ks := by rw [← hL, ← hK]; exact suffix_drop hs
  have e : ((strs xs).drop ((L - K) * 1)).take ((L - (L - K)) * 1) = ks.map Value.string := by
    unfold strs
    rw [Nat.mul_one, Nat.mul_one, ← List.map_drop, hd, List.take_of_length_le (by rw [List.length_map]; omega)]
  rw [e, Nat.mul_one, show L - (L - K) = K by omega, ← hK] at h1
  rw [← hK]
  exact h1
theorem reL_len (used : List ByteArray) (k : ByteArray) : (reL used k).length ≤ used.length + 1 := by
  unfold reL
  rw [List.length_append, List.length_singleton]
  have := List.length_filter_le (fun u => decide (u ≠ k)) used
  omega
theorem keys_len (s : CSt) : (keys s.U).length = s.U.length := by unfold keys; rw [List.length_map]
set_option maxHeartbeats 8000000 in
theorem cacheBudget_walk (budget : Int) (l vs : List ByteArray) (ao ao2 : Option Addr) (ca ca2 : Nat) (w : World) (hL : Laid w) (hb0 : -9223372036854775808 ≤ budget) (hb1 : budget ≤ 9223372036854775807) (hx : Rd w 1 l.length (.slice ao l.length ca) (l.map Value.string)) (hy : Rd w 1 vs.length (.slice ao2 vs.length ca2) (vs.map Value.string)) :
    Calls Tryz.prog 15 #[.int .i64 budget, .slice ao l.length ca, .slice ao2 vs.length ca2] w fun e w' => e = .returned (.bool true) ∧ Kept (fun _ => False) w w' := by
  have AL := Lib.hid (alive_true w hL)
  have HL := Lib.hid hL
  clear hL
  by_cases g1 : budget < 0
  · go_enter Tryz.func15, Tryz.ntmps15
    go_wp2_with fail
    refine AL.out.mono ?_
    rintro e w1 ⟨rfl, hk⟩
    have HK := Lib.hid hk
    clear hk
    go_wp2_with fail
    go_ret
    exact ⟨rfl, HK.out⟩
  by_cases g2 : 2000 < budget
  · go_enter Tryz.func15, Tryz.ntmps15
    go_wp2_with fail
    refine AL.out.mono ?_
    rintro e w1 ⟨rfl, hk⟩
    have HK := Lib.hid hk
    clear hk
    go_wp2_with fail
    go_ret
    exact ⟨rfl, HK.out⟩
  by_cases g3 : 60 < l.length
  · go_enter Tryz.func15, Tryz.ntmps15
    go_wp2_with fail
    refine AL.out.mono ?_
    rintro e w1 ⟨rfl, hk⟩
    have HK := Lib.hid hk
    clear hk
    go_wp2_with fail
    go_ret
    exact ⟨rfl, HK.out⟩
  by_cases g4 : vs.length = 0
  · go_enter Tryz.func15, Tryz.ntmps15
    go_wp2_with fail
    refine AL.out.mono ?_
    rintro e w1 ⟨rfl, hk⟩
    have HK := Lib.hid hk
    clear hk
    go_wp2_with fail
    go_ret
    exact ⟨rfl, HK.out⟩
  by_cases g5 : 60 < vs.length
  · go_enter Tryz.func15, Tryz.ntmps15
    go_wp2_with fail
    refine AL.out.mono ?_
    rintro e w1 ⟨rfl, hk⟩
    have HK := Lib.hid hk
    clear hk
    go_wp2_with fail
    go_ret
    exact ⟨rfl, HK.out⟩
  obtain ⟨i0, hi0, hz0, hz1, hz2⟩ := info_parts str_info
  have HX := Lib.hid hx
  have HY := Lib.hid hy
  clear hx hy
  obtain ⟨n, hn⟩ : ∃ n, n = l.length := ⟨_, rfl⟩
  obtain ⟨m, hm⟩ : ∃ m, m = vs.length := ⟨_, rfl⟩
  rw [← hn] at g3 HX ⊢
  rw [← hm] at g4 g5 HY ⊢
  have HN := Lib.hid hn
  have HM := Lib.hid hm
  clear hn hm
  have g4b : ((m : Int) == 0) = false := by simpa using g4
  go_enter Tryz.func15, Tryz.ntmps15
  go_wp2_with fail
  refine AL.out.mono ?_
  rintro e w1 ⟨rfl, hk⟩
  have NEW := Lib.hid (own_newc hk HL.out budget (by omega) (by omega))
  rw [newC_at (by omega) (by omega)] at NEW
  clear hk
  go_wp2_with fail
  refine NEW.out.mono ?_
  rintro e w2 ⟨c, rfl, o2⟩
  have O2 := Lib.hid o2
  clear o2 NEW
  go_wp2_with fail
  go_loopg [8, 9] n (fun gk uv k wr => ∃ (i : Nat) (s : CSt) (B : List (Nat × Obj)), i + gk = n ∧ k = .int .i64 (i : Int) ∧ s.bud = budget ∧ (∀ y ∈ s.U, y.til = 0) ∧ HeldR B uv (keys s.U) ∧ OwnC w wr c s i B)
  case atStart => exact ⟨0, ⟨budget, [], 0, 0⟩, [], by omega, rfl, rfl, (fun y hy => by cases hy), (fun W _ => Rd.of_sl (Sl.nil W 9 1)), O2.out⟩
  case round =>
    obtain ⟨i, s, B, hi, rfl, hbud, htil, hhr, hj⟩ := hrel
    have HTIL := Lib.hid htil
    have HHR := Lib.hid hhr
    obtain ⟨aou, cau, hus, _⟩ := (hj.reads hhr).shape
    rw [keys_len] at hus
    subst hus
    have hUL : s.U.length ≤ 60 := by have := hj.1.gl; have := hj.1.g0; have := hj.1.v1; omega
    clear htil hhr O2
    by_cases hlt : i < n
    · have hil : i < l.length := by rw [← HN.out]; exact hlt
      have hrm : i % m < m := Nat.mod_lt _ (by omega)
      have hml : i % m < vs.length := by rw [← HM.out]; exact hrm
      obtain ⟨g, off, rfl, x0⟩ := rd_str' (HX.out.kept hj.keep (fun _ _ h => h)) i hil
      obtain ⟨g', off', rfl, y0⟩ := rd_str' (HY.out.kept hj.keep (fun _ _ h => h)) (i % m) hml
      have htm : (i : Int).tmod (m : Int) = ((i % m : Nat) : Int) := rfl
      have KE := Lib.hid hj.keep
      have HBUD := Lib.hid hbud
      generalize (l[i]'hil) = k at *
      generalize (vs[i % m]'hml) = v at *
      generalize i % m = im at *
      go_wp2_with fail
      go_region
      clear htm x0 y0
      by_cases c0 : (k.size : Int) < 1
      · go_wp2_with fail
        go_ret
        exact ⟨rfl, KE.out.drew⟩
      by_cases c1 : 60 < (k.size : Int)
      · go_wp2_with fail
        go_ret
        exact ⟨rfl, KE.out.drew⟩
      by_cases c2 : 500 < (v.size : Int)
      · go_wp2_with fail
        go_ret
        exact ⟨rfl, KE.out.drew⟩
      have O2 := Lib.hid (hj.kept0 ((Kept.refl (fun _ => False) wr).drew))
      have HG := Lib.hid hj.1
      clear hj
      by_cases hlg : budget < 16 + (k.size : Int) + (v.size : Int)
      · have DO := Lib.hid (own_do O2.out (by omega) ⟨2, k, v, 0, 0⟩ (1) (show k.size ≤ 1000000000 by omega) (show v.size ≤ 1000000000 by omega) (show (2 : Int) ≠ 11 by decide) (show (2 : Int) ≠ 12 by decide) (bud_large HTIL.out (by omega) (by omega) (by omega) (by rw [HBUD.out]; exact hlg)))
        go_wp2_with fail
        refine DO.out.mono ?_
        rintro e w3 ⟨rfl, o3⟩
        have O3 := Lib.hid (o3.alloc (rpO (Rp.err 13) (.slice none 0 0)))
        clear o3 DO O2
        go_wp2_with fail
        go_roundg (gk - 1)
        case measure => omega
        case rel => exact ⟨i + 1, s, _, by omega, by go_num, HBUD.out, HTIL.out, HHR.out.more (fun p hp => .tail _ hp), O3.out.le (by omega)⟩
      · obtain ⟨r, s', hr, he, hb', htil', hsuf, h1', hu'⟩ := bud_fits HG.out HTIL.out (k := k) (v := v) (by omega) (by omega) (by omega) (by rw [HBUD.out]; exact hlg)
        obtain ⟨re, rv, rn, rve, rk⟩ := r
        simp only at he
        subst he
        have HTIL' := Lib.hid htil'
        have HB' := Lib.hid (hb'.trans HBUD.out)
        have HSUF := Lib.hid hsuf
        have HUS := Lib.hid (show usedL s'.U ≤ budget by rw [← HBUD.out]; exact hu')
        have DO := Lib.hid (own_do O2.out (by omega) ⟨2, k, v, 0, 0⟩ (1) (show k.size ≤ 1000000000 by omega) (show v.size ≤ 1000000000 by omega) (show (2 : Int) ≠ 11 by decide) (show (2 : Int) ≠ 12 by decide) hr)
        clear hb' htil' hsuf hu' hr
        go_wp2_with fail
        refine DO.out.mono ?_
        rintro e w2' ⟨rfl, o3⟩
        obtain ⟨w3, hw3⟩ : ∃ w3, w3 = w2'.alloc (.cells #[.int .i64 0, .string rv, .int .i64 rn, .int .i64 rve, .slice none 0 0] 36) := ⟨_, rfl⟩
        have O3 := Lib.hid (show OwnC w w3 c s' ((i : Int) + 1) ((w2'.heap.size, rpO ⟨0, rv, rn, rve, rk⟩ (.slice none 0 0)) :: B) from hw3 ▸ o3.alloc (rpO ⟨0, rv, rn, rve, rk⟩ (.slice none 0 0)))
        have RU3 := Lib.hid (by have h := O3.out.reads (HHR.out.more (fun p hp => .tail _ hp)); rw [keys_len] at h; exact h)
        clear o3 DO O2
        go_wp2_with fail
        rw [← hw3]
        clear hw3
        go_loopg [13, 95] s.U.length (fun gk nv jv wr => ∃ j : Nat, j + gk = s.U.length ∧ jv = .int .i64 (j : Int) ∧ Strs w3 wr nv (((keys s.U).take j).filter fun u => decide (u ≠ k)))
        case atStart => exact ⟨0, by omega, rfl, Strs.nil (Kept.refl _ _)⟩
        case round =>
          obtain ⟨j, hj2, rfl, hjj⟩ := hrel
          have hfl : (((keys s.U).take j).filter fun u => decide (u ≠ k)).length ≤ 60 := by
            have h1 := List.length_filter_le (fun u => decide (u ≠ k)) ((keys s.U).take j)
            rw [List.length_take] at h1
            have := keys_len s
            omega
          by_cases hlt2 : j < s.U.length
          · have hjl : j < (keys s.U).length := by rw [keys_len]; exact hlt2
            obtain ⟨g3, off3, hao3, y0⟩ := rd_str' (RU3.out.kept hjj.2.1 (fun _ _ h => h)) j hjl
            subst hao3
            have HTK := Lib.hid (show (keys s.U).take (j + 1) = (keys s.U).take j ++ [(keys s.U)[j]] from List.take_succ_eq_append_getElem hjl)
            generalize (keys s.U)[j]'hjl = u at *
            by_cases hu : u = k
            · have HNX := Lib.hid (show ((keys s.U).take (j + 1)).filter (fun u => decide (u ≠ k)) = (((keys s.U).take j).filter fun u => decide (u ≠ k)) by rw [HTK.out, List.filter_append, List.filter_cons_of_neg (by simp [hu]), List.filter_nil, List.append_nil])
              have hub : (u.toList == k.toList) = true := by rw [hu]; exact beq_self_eq_true _
              have HJ := Lib.hid hjj
              clear hu hjj
              go_wp2_with fail
              go_roundg (gk - 1)
              case measure => omega
              case rel => exact ⟨j + 1, by omega, by go_num, by rw [HNX.out]; exact HJ.out⟩
            · have HNX := Lib.hid (show ((keys s.U).take (j + 1)).filter (fun u => decide (u ≠ k)) = (((keys s.U).take j).filter fun u => decide (u ≠ k)) ++ [u] by rw [HTK.out, List.filter_append, List.filter_cons_of_pos (by simpa using hu), List.filter_nil])
              have hub : (u.toList == k.toList) = false := by rw [ByteArray.toList_eq, ByteArray.toList_eq]; exact beq_eq_false_iff_ne.2 fun h => hu (ByteArray.ext (Array.ext' h))
              clear hu
              have hsl := hjj.1
              obtain ⟨aov, cav, rfl, _⟩ := (Rd.of_sl hsl).shape
              have APP := Lib.hid (fun (W w5 : World) (g off cap : Nat) (hk : Kept (fun _ => False) wr W) h1 h2 h3 => (hjj.kept hk).push (g := g) (off := off) (cap := cap) (k := u) (w2 := w5) h1 h2 h3)
              have hone : ∀ z ∈ [Value.string u], z.oneCell' = true := by simp [Value.oneCell']
              clear hjj
              generalize (((keys s.U).take j).filter fun u => decide (u ≠ k)) = ul at *
              have b1' : ul.length + 1 ≤ maxLen := by unfold maxLen; omega
              have b2' : (ul.length + 1) * 16 ≤ 140737488355328 := by omega
              go_wp2_with (at_builtin; refine wpList_append_sl _ rfl (.tmp 102) (.tmp 104) 34 rfl 9 i0 _ 1 16 Tryz.underlying34 hi0 hz0 hz1 hz2 rfl (by decide) _ ul.length (strs ul) rfl (hsl.kept ((Kept.refl (fun _ => False) wr).alloc _) (fun _ _ h => h)) ⟨wr.heap.size, 0, none⟩ 1 1 [.string u] rfl rfl (cells_new _ _ _ _) hone (by omega) b1' b2' ?_; intro g4 off4 cap w5 h1 h2 h3; have FIN := Lib.hid (APP.out _ w5 g4 off4 cap ((Kept.refl (fun _ => False) wr).alloc _) h1 h2 h3); clear h1 h2 h3)
              go_roundg (gk - 1)
              case measure => omega
              case rel => exact ⟨j + 1, by omega, by go_num, by rw [HNX.out]; exact FIN.out⟩
          · have hjn : j = s.U.length := by omega
            have hfa : (((keys s.U).take j).filter fun u => decide (u ≠ k)) = (keys s.U).filter (fun u => decide (u ≠ k)) := by rw [hjn, List.take_of_length_le (by rw [keys_len]; exact Nat.le_refl _)]
            have HRE := Lib.hid (show reL (keys s.U) k = (((keys s.U).take j).filter fun u => decide (u ≠ k)) ++ [k] by rw [hfa]; rfl)
            clear hfa hjn
            have hsl := hjj.1
            obtain ⟨aov, cav, rfl, _⟩ := (Rd.of_sl hsl).shape
            have APP := Lib.hid (fun (W w5 : World) (g off cap : Nat) (hk : Kept (fun _ => False) wr W) h1 h2 h3 => (hjj.kept hk).push (g := g) (off := off) (cap := cap) (k := k) (w2 := w5) h1 h2 h3)
            have hone : ∀ z ∈ [Value.string k], z.oneCell' = true := by simp [Value.oneCell']
            clear hjj
            generalize (((keys s.U).take j).filter fun u => decide (u ≠ k)) = ul at *
            have b1' : ul.length + 1 ≤ maxLen := by unfold maxLen; omega
            have b2' : (ul.length + 1) * 16 ≤ 140737488355328 := by omega
            go_wp2_with (at_builtin; refine wpList_append_sl _ rfl (.tmp 107) (.tmp 109) 34 rfl 9 i0 _ 1 16 Tryz.underlying34 hi0 hz0 hz1 hz2 rfl (by decide) _ ul.length (strs ul) rfl (hsl.kept ((Kept.refl (fun _ => False) wr).alloc _) (fun _ _ h => h)) ⟨wr.heap.size, 0, none⟩ 1 1 [.string k] rfl rfl (cells_new _ _ _ _) hone (by omega) b1' b2' ?_; intro g4 off4 cap w5 h1 h2 h3; have FIN := Lib.hid (APP.out _ w5 g4 off4 cap ((Kept.refl (fun _ => False) wr).alloc _) h1 h2 h3); clear h1 h2 h3)
            have ORD := Lib.hid (own_orderK (O3.out.kept0 FIN.out.2.1))
            have US := Lib.hid (fun W (hk : Kept (fun _ => False) w5 W) => own_used ((O3.out.kept0 FIN.out.2.1).kept0 hk))
            have hcapl : ul.length + 1 ≤ cap := by have h := (Rd.of_sl FIN.out.1).at.2.1; rw [List.length_append, List.length_singleton] at h; exact h
            rw [← HRE.out] at FIN
            have HLN := Lib.hid (show ul.length + 1 = (reL (keys s.U) k).length by rw [HRE.out, List.length_append, List.length_singleton])
            clear APP
            go_wp2_with fail
            refine ORD.out.mono ?_
            rintro e w6 ⟨vo, rfl, hs6⟩
            obtain ⟨aoo, cao, rfl, _⟩ := (Rd.of_sl hs6.1).shape
            have US6 := Lib.hid (US.out w6 hs6.2.1)
            have HS6 := Lib.hid hs6
            have hKL : (keys s'.U).length ≤ ul.length + 1 := by rw [HLN.out]; exact HSUF.out.length_le
            have hK1 : 1 ≤ (keys s'.U).length := by rw [keys_len]; exact h1'
            have p3 := (rp_facts ((O3.out.kept0 (FIN.out.2.1.trans hs6.2.1 (fun _ _ h => h))).2.box (w2'.heap.size, rpO ⟨0, rv, rn, rve, rk⟩ (.slice none 0 0)) (.head _)).1)
            obtain ⟨f0, _, _, _, _, f5⟩ := p3
            simp only at f0
            have hnu : ¬ budget < usedL s'.U := by have := HUS.out; omega
            generalize hKK : (keys s'.U).length = K at *
            have HKK := Lib.hid hKK
            clear hs6 ORD US hKK
            go_wp2_with fail
            refine US6.out.mono ?_
            rintro e w7 ⟨rfl, rfl⟩
            have hw3 : wrap64 (((ul.length + 1 : Nat) : Int) - (K : Int)) = ((ul.length + 1 - K : Nat) : Int) := by rw [IntWalk.wrap64_in _ (by omega)]; omega
            have hcn : ¬ (cap - (ul.length + 1 - K) = 0) := by omega
            obtain ⟨B7, o7, hh7⟩ := O3.out.holdStrs FIN.out
            rw [← HLN.out] at hh7
            have HR7 := Lib.hid (hh7.cut HLN.out.symm HKK.out HSUF.out hcapl)
            have O7 := Lib.hid (o7.kept0 HS6.out.2.1)
            have HCUT := Lib.hid (show ul.length + 1 - (ul.length + 1 - K) = K by omega)
            have SAME := Lib.hid (sameTexts_true (.slice aoo K cao) (.slice (some ⟨g4, off4 + (ul.length + 1 - K), none⟩) K (cap - (ul.length + 1 - K))) (keys s'.U) w6 (by have h := Rd.of_sl HS6.out.1; rw [← HKK.out] at h; rw [← HKK.out]; exact h) (O7.out.reads HR7.out) (by rw [HKK.out]; omega))
            clear o7 hh7
            go_wp2_with fail
            rw [HCUT.out]
            refine SAME.out.mono ?_
            rintro e w8 ⟨rfl, q, rfl⟩
            go_wp2_with fail
            go_roundg (n - i - 1)
            case measure => omega
            case rel => exact ⟨i + 1, s', B7, by omega, by go_num, HB'.out, HTIL'.out, HR7.out, ((O7.out.kept0 ((Kept.refl (fun _ => False) w6).drewN q)).le (by omega))⟩
    · have US := Lib.hid (own_used hj)
      have KE := Lib.hid hj.keep
      have hle := hj.1.used
      rw [hbud] at hle
      clear hj
      go_wp2_with fail
      refine US.out.mono ?_
      rintro e w3 ⟨rfl, rfl⟩
      go_wp2_with fail
      go_ret
      exact ⟨by first | rfl | (simp; done) | (simp; omega), KE.out⟩
end Go.Proofs.YtehpafebpgndeaaGreatDoor
