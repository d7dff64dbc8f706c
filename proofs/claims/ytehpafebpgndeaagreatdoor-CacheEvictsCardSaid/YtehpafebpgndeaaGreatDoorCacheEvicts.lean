/-
  CacheEvicts: just as many of those that were used longest ago go as it takes: the walk.
-/
import Derived.Test.YtehpafebpgndeaaGreatDoorCachePut
namespace Go.Proofs.YtehpafebpgndeaaGreatDoor
set_option linter.unusedVariables false
set_option linter.unusedSimpArgs false
set_option linter.unnecessarySimpa false
open Go.RowKit
set_option maxRecDepth 100000

theorem evi_last {w : World} {s : CSt} {ao : Option Addr} {ca N G : Nat} (h : Sl w 9 1 s.U.length (.slice ao s.U.length ca) (strs (keys s.U))) (hk : keys s.U = ((List.range N).drop G).map kkB ++ [newB]) (hG : G ≤ N) :
    ∃ g off, ao = some ⟨g, off, none⟩ ∧ (s.U.length : Int) = (N : Int) - (G : Int) + 1 ∧ w.cell? ⟨g, off + (s.U.length - 1), none⟩ = some (.string ⟨#[110, 101, 119]⟩) := by
  have hl : s.U.length = N - G + 1 := by
    have h1 := congrArg List.length hk
    unfold keys at h1
    simp at h1
    omega
  obtain ⟨g, off, cap, he, hn, hg, hc⟩ := (Rd.of_sl h).base (by omega) (by decide)
  injection he with e1 e2 e3
  subst e1
  refine ⟨g, off, rfl, by omega, hc _ _ ?_⟩
  rw [hk]
  unfold strs
  rw [List.map_append, List.getElem?_append_right (by simp; omega)]
  have : s.U.length - 1 - (((List.range N).drop G).map kkB |>.map Value.string).length = 0 := by simp; omega
  rw [this]
  rfl
set_option maxHeartbeats 8000000 in
theorem cacheEvicts_walk (n size more : Int) (w : World) (hL : Laid w) (hn0 : -9223372036854775808 ≤ n) (hn1 : n ≤ 9223372036854775807) (hs0 : -9223372036854775808 ≤ size) (hs1 : size ≤ 9223372036854775807) (hm0 : -9223372036854775808 ≤ more) (hm1 : more ≤ 9223372036854775807) :
    Calls Tryz.prog 20 #[.int .i64 n, .int .i64 size, .int .i64 more] w fun e w' => e = .returned (.bool true) ∧ Kept (fun _ => False) w w' := by
  have AL := Lib.hid (alive_true w hL)
  have HL := Lib.hid hL
  clear hL
  by_cases g1 : n < 1
  · go_enter Tryz.func20, Tryz.ntmps20
    go_wp2_with fail
    refine AL.out.mono ?_
    rintro e w1 ⟨rfl, hk⟩
    have HK := Lib.hid hk
    clear hk
    go_wp2_with fail
    go_ret
    exact ⟨rfl, HK.out⟩
  by_cases g2 : 20 < n
  · go_enter Tryz.func20, Tryz.ntmps20
    go_wp2_with fail
    refine AL.out.mono ?_
    rintro e w1 ⟨rfl, hk⟩
    have HK := Lib.hid hk
    clear hk
    go_wp2_with fail
    go_ret
    exact ⟨rfl, HK.out⟩
  by_cases g3 : size < 0
  · go_enter Tryz.func20, Tryz.ntmps20
    go_wp2_with fail
    refine AL.out.mono ?_
    rintro e w1 ⟨rfl, hk⟩
    have HK := Lib.hid hk
    clear hk
    go_wp2_with fail
    go_ret
    exact ⟨rfl, HK.out⟩
  by_cases g4 : 20 < size
  · go_enter Tryz.func20, Tryz.ntmps20
    go_wp2_with fail
    refine AL.out.mono ?_
    rintro e w1 ⟨rfl, hk⟩
    have HK := Lib.hid hk
    clear hk
    go_wp2_with fail
    go_ret
    exact ⟨rfl, HK.out⟩
  by_cases g5 : more < 0
  · go_enter Tryz.func20, Tryz.ntmps20
    go_wp2_with fail
    refine AL.out.mono ?_
    rintro e w1 ⟨rfl, hk⟩
    have HK := Lib.hid hk
    clear hk
    go_wp2_with fail
    go_ret
    exact ⟨rfl, HK.out⟩
  by_cases g6 : 300 < more
  · go_enter Tryz.func20, Tryz.ntmps20
    go_wp2_with fail
    refine AL.out.mono ?_
    rintro e w1 ⟨rfl, hk⟩
    have HK := Lib.hid hk
    clear hk
    go_wp2_with fail
    go_ret
    exact ⟨rfl, HK.out⟩
  obtain ⟨N, rfl⟩ : ∃ N : Nat, n = (N : Int) := ⟨n.toNat, by omega⟩
  obtain ⟨S, rfl⟩ : ∃ S : Nat, size = (S : Int) := ⟨size.toNat, by omega⟩
  obtain ⟨M, rfl⟩ : ∃ M : Nat, more = (M : Int) := ⟨more.toNat, by omega⟩
  have hN1 : 1 ≤ N := by omega
  have hN2 : N ≤ 20 := by omega
  have hS2 : S ≤ 20 := by omega
  have hM2 : M ≤ 300 := by omega
  obtain ⟨P, hP⟩ : ∃ P : Int, (N : Int) * (18 + (S : Int)) = P := ⟨_, rfl⟩
  have hP0 : 0 ≤ P := by rw [← hP]; exact Int.mul_nonneg (by omega) (by omega)
  have hP1 : P ≤ 760 := by
    rw [← hP]
    exact Int.le_trans (Int.mul_le_mul_of_nonneg_right (show (N : Int) ≤ 20 by omega) (by omega)) (by omega)
  have PUT := Lib.hid (fun W hk => putF_any P N S w W hk HL.out hN2 (by omega) (by omega) hP0 (by omega))
  have US := Lib.hid (show usedL (rowU (putIt S) N) = P by rw [rowU_used (putIt_cost S)]; exact hP)
  have hw1 : wrap64 (18 + (S : Int)) = 18 + (S : Int) := by unfold wrap64; omega
  have hw2 : wrap64 ((N : Int) * (18 + (S : Int))) = P := by rw [hP]; unfold wrap64; omega
  have hw3 : wrap64 (19 + (M : Int)) = 19 + (M : Int) := by unfold wrap64; omega
  have mk := make_bytes M (by omega)
  have LARGE := Lib.hid (fun h => evicts_large (n := N) (size := S) (more := M) hM2 h)
  have FITS := Lib.hid (fun gone h h1 h2 h3 => evicts_fits (n := N) (size := S) (more := M) (gone := gone) hM2 h h1 h2 h3)
  rw [hP] at LARGE FITS
  have HP := Lib.hid hP
  clear hP g1 g2 g3 g4 g5 g6
  go_enter Tryz.func20, Tryz.ntmps20
  go_wp2_with fail
  refine AL.out.mono ?_
  rintro e w1 ⟨rfl, hk⟩
  have PUT1 := Lib.hid (PUT.out _ hk)
  clear hk PUT
  go_wp2_with fail
  refine PUT1.out.mono ?_
  rintro e w2 ⟨c, rfl, o2⟩
  have O2 := Lib.hid o2
  have US2 := Lib.hid (own_used o2)
  have GO2 := Lib.hid (own_gone o2)
  clear o2 PUT1
  go_wp2_with fail
  refine US2.out.mono ?_
  rintro e w3 ⟨rfl, rfl⟩
  simp only
  rw [US.out]
  go_wp2_with fail
  refine GO2.out.mono ?_
  rintro e w3 ⟨rfl, rfl⟩
  have hcv := conv_new w2 (List.replicate M 0)
  rw [z_nums, List.map_replicate, List.toArray_replicate, List.length_replicate] at hcv
  clear US2 GO2
  by_cases hl : P < 19 + (M : Int)
  · have DO := Lib.hid (fun (o : Obj) => own_do (O2.out.alloc o) (by omega) ⟨2, ⟨#[110, 101, 119]⟩, zB M, 0, 0⟩ (1) (show (⟨#[110, 101, 119]⟩ : ByteArray).size ≤ 1000000000 by decide) (show (zB M).size ≤ 1000000000 by rw [zB_size]; omega) (show (2 : Int) ≠ 11 by decide) (show (2 : Int) ≠ 12 by decide) (LARGE.out hl))
    go_wp2_with fail
    refine (DO.out _).mono ?_
    rintro e w4 ⟨rfl, o4⟩
    have o5 := o4.alloc (rpO (Rp.err 13) (.slice none 0 0))
    have GO := Lib.hid (own_gone o5)
    have US5 := Lib.hid (own_used o5)
    have KE := Lib.hid o5.keep
    clear o4 o5 DO
    go_wp2_with fail
    refine GO.out.mono ?_
    rintro e w5 ⟨rfl, rfl⟩
    go_wp2_with fail
    refine US5.out.mono ?_
    rintro e w5 ⟨rfl, rfl⟩
    simp only
    rw [US.out]
    go_wp2_with fail
    go_ret
    exact ⟨by first | rfl | (simp; done), KE.out⟩
  · obtain ⟨q, hq⟩ : ∃ q : Int, (18 + (M : Int) + (18 + (S : Int))) / (18 + (S : Int)) = q := ⟨_, rfl⟩
    have e0 : (0 : Int) < 18 + (S : Int) := by omega
    have q1 : q * (18 + (S : Int)) ≤ 18 + (M : Int) + (18 + (S : Int)) := by rw [← hq]; exact Int.ediv_mul_le _ (by omega)
    have q2 : 18 + (M : Int) + (18 + (S : Int)) < (q + 1) * (18 + (S : Int)) := by rw [← hq]; exact Int.lt_ediv_add_one_mul_self _ e0
    have q3 : (q - 1) * (18 + (S : Int)) < 19 + (M : Int) := by rw [Int.sub_mul]; omega
    have q4 : 19 + (M : Int) ≤ q * (18 + (S : Int)) := by rw [Int.add_mul] at q2; omega
    have q5 : 1 ≤ q := by
      rcases Int.lt_or_le q 1 with h | h
      · have := Int.mul_le_mul_of_nonneg_right (show q ≤ 0 by omega) (show 0 ≤ 18 + (S : Int) by omega)
        omega
      · exact h
    have q6 : q ≤ N := by
      rcases Int.lt_or_le (N : Int) q with h | h
      · have h1 := Int.mul_le_mul_of_nonneg_right (show (N : Int) ≤ q - 1 by omega) (show 0 ≤ 18 + (S : Int) by omega)
        rw [HP.out] at h1
        omega
      · exact h
    obtain ⟨G, rfl⟩ : ∃ G : Nat, q = (G : Int) := ⟨q.toNat, by omega⟩
    obtain ⟨r, s', hr, he, hg, hks, hu⟩ := FITS.out G (by omega) (by omega) q4 q3
    have HKS := Lib.hid hks
    have HU := Lib.hid hu
    have HG := Lib.hid hg
    clear hks hu hg q1 q2 q3 q4
    obtain ⟨re, rv, rn, rve, rk⟩ := r
    simp only at he
    subst he
    have DO := Lib.hid (fun (o : Obj) => own_do (O2.out.alloc o) (by omega) ⟨2, ⟨#[110, 101, 119]⟩, zB M, 0, 0⟩ (1) (show (⟨#[110, 101, 119]⟩ : ByteArray).size ≤ 1000000000 by decide) (show (zB M).size ≤ 1000000000 by rw [zB_size]; omega) (show (2 : Int) ≠ 11 by decide) (show (2 : Int) ≠ 12 by decide) hr)
    have hw4 : wrap64 (19 + (M : Int) + (18 + (S : Int))) = 19 + (M : Int) + (18 + (S : Int)) := by unfold wrap64; omega
    have hw5 : wrap64 (19 + (M : Int) + (18 + (S : Int)) - 1) = 18 + (M : Int) + (18 + (S : Int)) := by unfold wrap64; omega
    have HDV := Lib.hid (show (19 + (M : Int) + (18 + (S : Int)) - 1) / (18 + (S : Int)) = (G : Int) by rw [← hq]; congr 1; omega)
    have hcmp : ¬ ((N : Int) < (19 + (M : Int) + (18 + (S : Int)) - 1) / (18 + (S : Int))) := by rw [HDV.out]; omega
    have hw6 : wrap64 ((18 + (M : Int) + (18 + (S : Int))).tdiv (18 + (S : Int))) = (G : Int) := by
      rw [Int.tdiv_eq_ediv_of_nonneg (by omega), hq]; unfold wrap64; omega
    go_wp2_with fail
    refine (DO.out _).mono ?_
    rintro e w4 ⟨rfl, o4⟩
    have O5 := Lib.hid (o4.alloc (rpO ⟨0, rv, rn, rve, rk⟩ (.slice none 0 0)))
    have ORD := Lib.hid (own_order O5.out)
    clear o4 DO
    have HQ := Lib.hid hq
    clear hq
    go_wp2_with fail
    clear hcmp hw4 hw5 hw6
    rw [HDV.out]
    refine ORD.out.mono ?_
    rintro e w5 ⟨v5, B5, rfl, o5, hB5, hh5, ao5, ca5, rfl⟩
    have GO := Lib.hid (own_gone o5)
    have US5 := Lib.hid (own_used o5)
    have bx := (o5.2.box _ (hB5 _ (.head _))).1
    obtain ⟨f0, f1, f2, f3, f4, f5⟩ := rp_facts bx
    simp only at f0
    have hlast := evi_last (o5.held hh5) HKS.out (by omega)
    obtain ⟨g5, off5, rfl, hlen5, hc5⟩ := hlast
    have KE := Lib.hid o5.keep
    clear o5 bx hh5 hB5 ORD
    rw [HG.out] at GO
    rw [HU.out] at US5
    obtain ⟨K, hK⟩ : ∃ K, s'.U.length = K + 1 := ⟨s'.U.length - 1, by omega⟩
    rw [hK] at hlen5 hc5 ⊢
    have hbe : ((K : Int) + 1 == (N : Int) - (G : Int) + 1) = true := by rw [beq_iff_eq]; omega
    rw [Nat.add_sub_cancel] at hc5
    have hK20 : K ≤ 20 := by omega
    have HLEN5 := Lib.hid hlen5
    clear hK hlen5
    have hmul : ((N - G : Nat) : Int) * (18 + (S : Int)) = ((N : Int) - (G : Int)) * (18 + (S : Int)) := by rw [Int.ofNat_sub (by omega)]
    rw [hmul] at US5
    obtain ⟨P2, hP2⟩ : ∃ P2 : Int, ((N : Int) - (G : Int)) * (18 + (S : Int)) = P2 := ⟨_, rfl⟩
    have p20 : 0 ≤ P2 := by rw [← hP2]; exact Int.mul_nonneg (by omega) (by omega)
    have p21 : P2 ≤ 760 := by
      rw [← hP2]
      exact Int.le_trans (Int.mul_le_mul_of_nonneg_right (show (N : Int) - G ≤ 20 by omega) (by omega)) (by omega)
    have hw7 : wrap64 ((N : Int) - (G : Int)) = (N : Int) - (G : Int) := by unfold wrap64; omega
    have hw9 : wrap64 ((N : Int) - (G : Int) + 1) = (N : Int) - (G : Int) + 1 := by unfold wrap64; omega
    have hw10 : wrap64 (P2 + (19 + (M : Int))) = P2 + (19 + (M : Int)) := by unfold wrap64; omega
    have hw8 : wrap64 (((N : Int) - (G : Int)) * (18 + (S : Int))) = P2 := by rw [hP2]; unfold wrap64; omega
    rw [hP2] at US5
    clear hmul
    go_wp2_with fail
    refine GO.out.mono ?_
    rintro e w6 ⟨rfl, rfl⟩
    go_wp2_with fail
    refine US5.out.mono ?_
    rintro e w6 ⟨rfl, rfl⟩
    go_wp2_with fail
    go_ret
    exact ⟨by first | rfl | (simp; done) | (simp; omega), KE.out⟩
end Go.Proofs.YtehpafebpgndeaaGreatDoor
