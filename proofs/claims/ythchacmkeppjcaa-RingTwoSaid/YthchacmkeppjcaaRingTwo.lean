/-
  RingTwo's walk: it returns true, whatever the numbers and the notes.
-/
import Derived.Test.YthchacmkeppjcaaSameNotes
namespace Go.Proofs.Ythchacmkeppjcaa
open Go.RowKit

/-- Two rings of the call's own that share no block. -/
def Two (w wr : World) (a b : Nat) (n m : Int) (h1 h2 : List Note) (va vb : Value) : Prop :=
  RingHas wr a n h1 va ∧ RingHas wr b m h2 vb ∧ Kept (fun _ => False) w wr ∧ (∀ k, ringF a va k → w.heap.size ≤ k) ∧ (∀ k, ringF b vb k → w.heap.size ≤ k) ∧ ∀ k, ringF a va k → ¬ ringF b vb k

theorem Two.first {w w1 w2 : World} {a b : Nat} {n m : Int} {h1 h2 : List Note} {va vb : Value} {x : Note} (h : Two w w1 a b n m h1 h2 va vb) (ha : AddedHas w1 w2 a n h1 va x) : ∃ va', Two w w2 a b n m (h1 ++ [x]) h2 va' vb := by
  obtain ⟨r1, r2, hk, f1, f2, hd⟩ := h
  obtain ⟨v', s1, s2, s3⟩ := ha
  refine ⟨v', s1, r2.kept s2 (fun k hb ha => hd k ha hb), hk.trans s2 (fun i hi hs => by have := f1 i hs; omega), fun k hk' => ?_, f2, fun k hk' hb => ?_⟩
  · rcases s3 k hk' with h | h
    · exact f1 k h
    · have := hk.size; omega
  · rcases s3 k hk' with h | h
    · exact hd k h hb
    · have := r2.lt hb; omega
theorem Two.swap {w wr : World} {a b : Nat} {n m : Int} {h1 h2 : List Note} {va vb : Value} (h : Two w wr a b n m h1 h2 va vb) : Two w wr b a m n h2 h1 vb va :=
  ⟨h.2.1, h.1, h.2.2.1, h.2.2.2.2.1, h.2.2.2.1, fun k hb ha => h.2.2.2.2.2 k ha hb⟩
theorem Two.kept {w w1 w2 : World} {a b : Nat} {n m : Int} {h1 h2 : List Note} {va vb : Value} (h : Two w w1 a b n m h1 h2 va vb) (hk : Kept (fun _ => False) w1 w2) : Two w w2 a b n m h1 h2 va vb :=
  ⟨h.1.kept hk (fun _ _ h => h), h.2.1.kept hk (fun _ _ h => h), h.2.2.1.trans hk (fun _ _ h => h), h.2.2.2⟩

theorem two_new {w w1 w2 w3 : World} {a b : Nat} {n m : Int} (hk : Kept (fun _ => False) w w1) (ha : a = w1.heap.size) (hr : RingHas w2 a n [] (.slice none 0 0)) (hk2 : Kept (fun _ => False) w1 w2) (hz : w1.heap.size < w2.heap.size)
    (hb : b = w2.heap.size) (hr3 : RingHas w3 b m [] (.slice none 0 0)) (hk3 : Kept (fun _ => False) w2 w3) : Two w w3 a b n m [] [] (.slice none 0 0) (.slice none 0 0) := by
  have s1 := hk.size
  refine ⟨hr.kept hk3 (fun _ _ h => h), hr3, (hk.trans hk2 (fun _ _ h => h)).trans hk3 (fun _ _ h => h), fun k h => ?_, fun k h => ?_, fun k h g => ?_⟩
  · rcases h with rfl | h
    · omega
    · simp [Value.ownBlock] at h
  · rcases h with rfl | h
    · omega
    · simp [Value.ownBlock] at h
  · rcases h with rfl | h
    · rcases g with rfl | g
      · omega
      · simp [Value.ownBlock] at g
    · simp [Value.ownBlock] at h

theorem lastn_two {α : Type} (a b : Nat) (l : List α) (h : a ≤ b) : lastn a l = (lastn b l).drop ((lastn b l).length - (lastn a l).length) := by
  rw [lastn_length, lastn_length]
  unfold lastn
  rw [List.drop_drop]
  congr 1
  omega

set_option maxRecDepth 100000 in
set_option maxHeartbeats 1000000 in
theorem ringTwo_walk (n m : Int) (v : Value) (l : List Note) (w : World) (hn0 : -9223372036854775808 ≤ n) (hn1 : n ≤ 9223372036854775807) (hm0 : -9223372036854775808 ≤ m) (hm1 : m ≤ 9223372036854775807) (hl : Rd w 4 l.length v (flat l)) :
    Calls Try.prog 4 #[.int .i64 n, .int .i64 m, v] w fun e w' => e = .returned (.bool true) ∧ Kept (fun _ => False) w w' := by
  obtain ⟨ao, cap, rfl, hcap⟩ := hl.shape
  have HL := Lib.hid hl
  clear hl
  obtain ⟨N, hN⟩ : ∃ N, N = l.length := ⟨_, rfl⟩
  rw [← hN] at hcap ⊢
  have HN := Lib.hid hN
  clear hN
  by_cases c1 : n < 1
  · go_enter Try.func4, Try.ntmps4
    go_wp2_with (go_at_call 7; refine (alive_any _).mono ?_; rintro e w1 ⟨rfl, hk1⟩)
    go_ret
    exact ⟨rfl, hk1⟩
  by_cases c2 : m < n
  · go_enter Try.func4, Try.ntmps4
    go_wp2_with (go_at_call 7; refine (alive_any _).mono ?_; rintro e w1 ⟨rfl, hk1⟩)
    go_ret
    exact ⟨rfl, hk1⟩
  by_cases c3 : 50 < m
  · go_enter Try.func4, Try.ntmps4
    go_wp2_with (go_at_call 7; refine (alive_any _).mono ?_; rintro e w1 ⟨rfl, hk1⟩)
    go_ret
    exact ⟨rfl, hk1⟩
  by_cases c4 : (120 : Int) < N
  · go_enter Try.func4, Try.ntmps4
    go_wp2_with (go_at_call 7; refine (alive_any _).mono ?_; rintro e w1 ⟨rfl, hk1⟩)
    go_ret
    exact ⟨rfl, hk1⟩
  have d1 : 1 ≤ n := by omega
  have d2 : n ≤ m := by omega
  have d3 : m ≤ 50 := by omega
  have d4 : N ≤ 120 := by omega
  clear c1 c2 c3 c4
  go_enter Try.func4, Try.ntmps4
  go_wp2_with fail
  refine (alive_any _).mono ?_
  rintro e w1 ⟨rfl, hk1⟩
  go_wp2_with fail
  refine (new_has n _ hn0 hn1).mono ?_
  rintro e w2 ⟨rfl, hr2, hk2, hz2⟩
  go_wp2_with fail
  refine (new_has m _ hm0 hm1).mono ?_
  rintro e w3 ⟨rfl, hr3, hk3, hz3⟩
  rw [show min (max n 1) 50 = n by omega] at hr2
  rw [show min (max m 1) 50 = m by omega] at hr3
  obtain ⟨a, ha⟩ : ∃ a, a = w1.heap.size := ⟨_, rfl⟩
  obtain ⟨b, hb⟩ : ∃ b, b = w2.heap.size := ⟨_, rfl⟩
  rw [← ha] at hr2 ⊢
  rw [← hb] at hr3 ⊢
  have htwo := two_new hk1 ha hr2 hk2 hz2 hb hr3 hk3
  clear hr2 hk1 hk2 hz2 ha hb hr3 hk3 hz3
  go_wp2_with fail
  go_loopw [9] (fun k wr => ∃ i : Nat, i ≤ N ∧ k = .int .i64 (i : Int) ∧ ∃ va vb, Two w wr a b n m (l.take i) (l.take i) va vb) (fun k _ => N - (intOf k).toNat)
  case atStart => exact ⟨0, by omega, rfl, _, _, htwo⟩
  case round =>
    obtain ⟨i, hi, rfl, va, vb, htw⟩ := hrel
    have hlen : (l.take i).length < 1000000 := by rw [List.length_take]; omega
    by_cases hlt : i < N
    · have hil : i < l.length := HN.out ▸ hlt
      obtain ⟨g, off, rfl, z0, z1, z2, z3⟩ := rd_note HL.out rfl i hil
      have hsnoc : l.take (i + 1) = l.take i ++ [l[i]] := by rw [List.take_succ_eq_append_getElem hil]
      have HS := Lib.hid hsnoc
      have Z := Lib.hid (And.intro z0 (And.intro z1 (And.intro z2 z3)))
      clear hsnoc z0 z1 z2 z3
      generalize l[i] = nt at *
      have x0 := htw.2.2.1.cell0 Z.out.1
      have x1 := htw.2.2.1.cell0 Z.out.2.1
      have x2 := htw.2.2.1.cell0 Z.out.2.2.1
      have x3 := htw.2.2.1.cell0 Z.out.2.2.2
      go_wp2_with fail
      refine (add_has a n _ va nt _ rfl _ htw.1 hlen).mono ?_
      rintro e w4 ⟨rfl, had⟩
      obtain ⟨va', htw4⟩ := htw.first had
      have y0 := htw4.2.2.1.cell0 Z.out.1
      have y1 := htw4.2.2.1.cell0 Z.out.2.1
      have y2 := htw4.2.2.1.cell0 Z.out.2.2.1
      have y3 := htw4.2.2.1.cell0 Z.out.2.2.2
      clear had htw x0 x1 x2 x3
      go_wp2_with fail
      refine (add_has b m _ vb nt _ rfl _ htw4.2.1 hlen).mono ?_
      rintro e w5 ⟨rfl, had⟩
      obtain ⟨vb', htw5⟩ := htw4.swap.first had
      have htw6 := htw5.swap
      rw [← HS.out] at htw6
      clear had htw4 htw5 y0 y1 y2 y3
      go_wp2_with fail
      go_roundw
      case rel => exact ⟨i + 1, by omega, by go_num, _, _, htw6⟩
      case measure => simp [intOf]; omega
    · obtain rfl : i = N := by omega
      have HT : RowKit.Hid (((l.length : Nat) : Int) = i) := by rw [HN.out]; rfl
      rcases Nat.eq_zero_or_pos i with h0 | hpos
      · subst h0
        obtain rfl : l = [] := List.eq_nil_of_length_eq_zero HN.out.symm
        go_wp2_with fail
        refine (last_none a n va _ htw.1).mono ?_
        rintro e w4 ⟨rfl, rfl⟩
        go_wp2_with fail
        refine (last_none b m vb _ htw.2.1).mono ?_
        rintro e w5 ⟨rfl, rfl⟩
        go_wp2_with (first | (go_at_call 12; refine (sameNotes_true _ _ [] _ (Rd.of_sl (Sl.nil _ 38 4)) (Rd.of_sl (Sl.nil _ 38 4)) (by simp)).mono ?_; rintro e w6 ⟨rfl, q, rfl⟩) | (go_at_call_of 13 (Value.pointer (some ⟨a, 0, none⟩)); refine (total_has a n [] va 0 rfl _ (htw.kept ((Kept.refl _ _).drewN q)).1).mono ?_; rintro e w7 ⟨rfl, rfl⟩) | (go_at_call_of 13 (Value.pointer (some ⟨b, 0, none⟩)); refine (total_has b m [] vb 0 rfl _ (htw.kept ((Kept.refl _ _).drewN q)).2.1).mono ?_; rintro e w7 ⟨rfl, rfl⟩))
        go_ret
        exact ⟨rfl, (htw.kept ((Kept.refl _ _).drewN q)).2.2.1⟩
      have htk : l.take i = l := List.take_of_length_le (by have := HN.out; omega)
      rw [htk] at htw hlen
      have HL2 := Lib.hid hlen
      clear hlen htk
      go_wp2_with fail
      refine (last_has a n _ va _ htw.1 HL2.out).mono ?_
      rintro e w4 ⟨u, rfl, hs1, hk1, hu1⟩
      have htw4 := htw.kept hk1
      go_wp2_with fail
      refine (last_has b m _ vb _ htw4.2.1 HL2.out).mono ?_
      rintro e w5 ⟨u', rfl, hs2, hk2, hu2⟩
      have htw5 := htw4.kept hk2
      have r1 := (Rd.of_sl hs1).kept hk2 (fun _ _ h => h)
      have r2 := Rd.of_sl hs2
      have e1 := lastn_length n.toNat l
      have e2 := lastn_length m.toNat l
      clear htw htw4 hk1 hk2 hs1 hs2 hu1 hu2
      obtain ⟨p, hp⟩ : ∃ p, p = (lastn n.toNat l).length := ⟨_, rfl⟩
      obtain ⟨q, hq⟩ : ∃ q, q = (lastn m.toNat l).length := ⟨_, rfl⟩
      have r3 : Rd w5 4 p u (flat ((lastn m.toNat l).drop (q - p))) := by rw [hp, hq, ← lastn_two n.toNat m.toNat l (by omega)]; exact r1
      rw [← hq] at r2
      have hpq : p ≤ q := by omega
      have hdl : ((lastn m.toNat l).drop (q - p)).length = p := by rw [List.length_drop, ← hq]; omega
      have hfd := flat_drop (lastn m.toNat l) (q - p)
      generalize lastn m.toNat l = lm at *
      rw [← HN.out] at e1 e2
      have hp0 : 0 < p := by omega
      have hq1 : q ≤ 120 := by omega
      clear r1 e1 e2
      have HP := Lib.hid hdl
      have HQ := Lib.hid hq
      clear hp hdl hq
      obtain ⟨ga, oa, ca, rfl, hca, _⟩ := r3.base hp0 (by omega)
      obtain ⟨gb, ob, cb, rfl, hcb, _⟩ := r2.base (by omega : 0 < q) (by omega)
      have r4 := r2.cut (q - p) q (cb - (q - p)) (by omega) (Nat.le_refl _) (by omega)
      have hqp : q - (q - p) = p := by omega
      have r5 : Rd w5 4 (lm.drop (q - p)).length (.slice (some ⟨gb, ob + (q - p) * 4, none⟩) (q - (q - p)) (cb - (q - p))) (flat (lm.drop (q - p))) := by
        rw [hfd, List.take_of_length_le (by rw [flat_length, HP.out]; omega)] at r4
        rw [HP.out]
        rw [hqp] at r4 ⊢
        exact r4
      have r6 : Rd w5 4 (lm.drop (q - p)).length (.slice (some ⟨ga, oa, none⟩) p ca) (flat (lm.drop (q - p))) := by rw [HP.out]; exact r3
      have hbd : (lm.drop (q - p)).length ≤ 1000000 := by rw [HP.out]; omega
      have R5 := Lib.hid r5
      have R6 := Lib.hid r6
      have HBD := Lib.hid hbd
      clear r4 r5 r6 r3 r2 hfd hqp hbd
      go_wp2_with (first | (go_at_call 12; refine (sameNotes_true _ _ (lm.drop (q - p)) _ R6.out R5.out HBD.out).mono ?_; rintro e w6 ⟨rfl, q2, rfl⟩) | (go_at_call_of 13 (Value.pointer (some ⟨a, 0, none⟩)); refine (total_has a n l va i HT.out _ (htw5.kept ((Kept.refl _ _).drewN q2)).1).mono ?_; rintro e w7 ⟨rfl, rfl⟩) | (go_at_call_of 13 (Value.pointer (some ⟨b, 0, none⟩)); refine (total_has b m l vb i HT.out _ (htw5.kept ((Kept.refl _ _).drewN q2)).2.1).mono ?_; rintro e w7 ⟨rfl, rfl⟩))
      go_ret
      exact ⟨rfl, (htw5.kept ((Kept.refl _ _).drewN q2)).2.2.1⟩
end Go.Proofs.Ythchacmkeppjcaa
