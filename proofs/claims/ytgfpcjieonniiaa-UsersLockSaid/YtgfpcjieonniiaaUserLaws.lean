/-
  The walks of UsersApart, UsersNone, UsersLock: they return true, whatever comes in.
-/
import Derived.Test.YtgfpcjieonniiaaUserD
namespace Go.Proofs.Ytgfpcjieonniiaa
open Go.RowKit Go.Maps

/-- Two users, made by New out of a slice of two. -/
theorem new_two {w w1 : World} (nm sec nm2 sec2 : ByteArray) (g : Nat) (hk : Kept (fun _ => False) w w1) (hc : w1.heap[g]? = some (.cells #[.string nm, .string sec, .string nm2, .string sec2] 29 (0, 0))) (hv : rightB nm sec = true) (hv2 : rightB nm2 sec2 = true) (hne : nm ≠ nm2) :
    Calls Try.prog 9 #[.slice (some ⟨g, 0, none⟩) 2 2] w1 fun e w' => ∃ b m k k2, e = .returned (.tuple #[.pointer (some ⟨b, 0, none⟩), .int .i64 0]) ∧ OwnU w w' b m [⟨nm, k, sec, 0, false, 0⟩, ⟨nm2, k2, sec2, 0, false, 0⟩] ∧ k ≠ k2 := by
  have hrd : Rd w1 2 [(nm, sec), (nm2, sec2)].length (.slice (some ⟨g, 0, none⟩) 2 2) ([(nm, sec), (nm2, sec2)].flatMap userCells) := rd_block (vs := [.string nm, .string sec, .string nm2, .string sec2]) hc rfl
  refine (new_any (.slice (some ⟨g, 0, none⟩) 2 2) [(nm, sec), (nm2, sec2)] w1 hrd).mono ?_
  rintro e w' ⟨hk2, h⟩
  have hvb : validB [(nm, sec), (nm2, sec2)] = true := by simp [validB, hv, hv2, hne]
  rw [hvb] at h
  obtain ⟨b, m, L, rfl, hu, hm, hb, hmm⟩ := h
  have hown := own_of_new hk hk2 hu hm hb hmm
  obtain ⟨h1, h2⟩ := hm
  match L, h1, h2 with
  | [x, y], h1, h2 =>
    obtain ⟨a1, a2, a3, _⟩ := h2 x (by simp)
    obtain ⟨c1, c2, c3, _⟩ := h2 y (by simp)
    obtain ⟨xn, xb, xs, xf, xl, xt⟩ := x
    obtain ⟨yn, yb, ys, yf, yl, yt⟩ := y
    simp at h1 a1 a2 a3 c1 c2 c3
    obtain ⟨⟨rfl, rfl⟩, rfl, rfl⟩ := h1
    subst a1 a2 a3 c1 c2 c3
    refine ⟨b, m, xb, yb, rfl, hown, ?_⟩
    have := hu.apart
    simpa using this

/-- Ann behind k failures at one time. -/
def annAt (blk : Nat) (s : ByteArray) (now : Int) (k : Nat) : Usr := ⟨ann, blk, s, ((k % 3 : Nat) : Int), decide (3 ≤ k), if 3 ≤ k then now + 20 else 0⟩
theorem annAt_failed (blk : Nat) (s : ByteArray) (now : Int) (k : Nat) (h : now ≤ 1000000) : failed (annAt blk s now k) now = (annAt blk s now (k + 1), decide ((k + 1) % 3 = 0)) := by
  unfold failed annAt
  by_cases c : k % 3 = 2
  · have c1 : (k + 1) % 3 = 0 := by omega
    have c2 : 3 ≤ k + 1 := by omega
    have c3 : now ≤ 9223372036854775787 := by omega
    simp [c, c1, c2, c3]
  · have c1 : (k + 1) % 3 = k % 3 + 1 := by omega
    have c2 : ((k % 3 : Nat) : Int) + 1 < 3 := by omega
    have c4 : (3 ≤ k) = (3 ≤ k + 1) := by apply propext; omega
    have e : ((k % 3 : Nat) : Int) + 1 = ((k % 3 + 1 : Nat) : Int) := by omega
    have e2 : decide (k % 3 + 1 = 0) = false := by simp
    rw [if_pos c2]
    simp only [c4, c1, e, e2]

theorem right_bob {sec : ByteArray} (h : sec.size = 32) : rightB bob sec = true := by
  unfold rightB
  rw [decide_eq_true h]
  decide

set_option maxRecDepth 100000 in
set_option maxHeartbeats 1600000 in
theorem usersApart_walk (fails now : Int) (w : World) :
    Calls Try.prog 3 #[.int .i64 fails, .int .i64 now] w fun e w' => e = .returned (.bool true) ∧ Kept (fun _ => False) w w' := by
  by_cases c1 : fails < 0
  · go_enter Try.func3, Try.ntmps3
    go_wp2_with (go_at_call 7; refine (alive_any _).mono ?_; rintro e w1 ⟨rfl, hk1⟩)
    go_ret
    exact ⟨rfl, hk1⟩
  by_cases c2 : 10 < fails
  · go_enter Try.func3, Try.ntmps3
    go_wp2_with (go_at_call 7; refine (alive_any _).mono ?_; rintro e w1 ⟨rfl, hk1⟩)
    go_ret
    exact ⟨rfl, hk1⟩
  by_cases c3 : now < 0
  · go_enter Try.func3, Try.ntmps3
    go_wp2_with (go_at_call 7; refine (alive_any _).mono ?_; rintro e w1 ⟨rfl, hk1⟩)
    go_ret
    exact ⟨rfl, hk1⟩
  by_cases c4 : 1000 < now
  · go_enter Try.func3, Try.ntmps3
    go_wp2_with (go_at_call 7; refine (alive_any _).mono ?_; rintro e w1 ⟨rfl, hk1⟩)
    go_ret
    exact ⟨rfl, hk1⟩
  obtain ⟨N, rfl⟩ : ∃ N : Nat, fails = N := ⟨fails.toNat, by omega⟩
  have d1 : N ≤ 10 := by omega
  have d2 : 0 ≤ now := by omega
  have d3 : now ≤ 1000 := by omega
  clear c1 c2 c3 c4
  obtain ⟨s, hs, hsz⟩ : ∃ s, s = fillB ⟨#[115]⟩ 32 ∧ s.size = 32 := ⟨_, rfl, fillB_size _ _⟩
  have hfill := fun W => fill_any ⟨#[115]⟩ 32 W (by decide) (by decide)
  rw [← hs] at hfill
  have HF := Lib.hid hfill
  have HZ := Lib.hid hsz
  clear hs hfill hsz
  go_enter Try.func3, Try.ntmps3
  go_wp2_with fail
  refine (alive_any _).mono ?_
  rintro e w1 ⟨rfl, hk1⟩
  go_wp2_with fail
  refine (HF.out _).mono ?_
  rintro e w2 ⟨rfl, rfl⟩
  go_wp2_with fail
  have hnew := new_two ann s bob s w1.heap.size (hk1.alloc (.cells #[.string ann, .string s, .string bob, .string s] 29)) (heap_alloc_new w1 _) (right_ann HZ.out) (right_bob HZ.out) (by decide)
  refine hnew.mono ?_
  clear hnew hk1
  rintro e w2 ⟨b, m, k, k2, rfl, ho, hkk⟩
  have HK := Lib.hid hkk
  clear hkk
  have ho0 : OwnU w w2 b m [annAt k s now 0, ⟨bob, k2, s, 0, false, 0⟩] := ho
  clear ho
  go_wp2_with fail
  go_loopw [8] (fun i wr => ∃ j : Nat, j ≤ N ∧ i = .int .i64 (j : Int) ∧ OwnU w wr b m [annAt k s now j, ⟨bob, k2, s, 0, false, 0⟩]) (fun i _ => N - (intOf i).toNat)
  case atStart => exact ⟨0, by omega, rfl, ho0⟩
  case round =>
    obtain ⟨j, hj, rfl, hoj⟩ := hrel
    by_cases hlt : j < N
    · go_wp2_with fail
      refine (own_fail (n := ann) (L' := [annAt k s now (j + 1), ⟨bob, k2, s, 0, false, 0⟩]) hoj ann_size rfl (by simp [annAt]; omega) (by simp [annAt]; omega) (by omega) (by omega) (annAt_failed k s now j (by omega)) (by have := HK.out; simp [turn, annAt]; omega)).mono ?_
      rintro e w3 ⟨rfl, hoj2⟩
      clear hoj
      go_wp2_with fail
      go_roundw
      case rel => exact ⟨j + 1, by omega, by go_num, hoj2⟩
      case measure => simp [intOf]; omega
    · obtain rfl : j = N := by omega
      have e1 : lockedB (findU [annAt k s now j, ⟨bob, k2, s, 0, false, 0⟩] ann) now = decide ((3 : Int) ≤ j) := by
        show (decide (3 ≤ j) && decide (now ≤ (if 3 ≤ j then now + 20 else 0))) = _
        by_cases h3 : 3 ≤ j
        · have : (3 : Int) ≤ j := by omega
          rw [if_pos h3]; simp [h3, this]; omega
        · have : ¬ (3 : Int) ≤ j := by omega
          simp [h3, this]
      have e2 : failsOf (findU [annAt k s now j, ⟨bob, k2, s, 0, false, 0⟩] ann) = (j : Int) % 3 := by
        show ((j % 3 : Nat) : Int) = _
        omega
      have HE := Lib.hid e1
      have HR := Lib.hid e2
      clear e1 e2
      go_wp2_with fail
      refine (own_locked (n := ann) (now := now) hoj ann_size HE.out).mono ?_
      rintro e w3 ⟨rfl, rfl⟩
      by_cases h3 : (3 : Int) ≤ j
      all_goals
        go_wp2_with (first | (go_at_call 11; refine (own_locked (n := bob) (now := now) (r := false) hoj bob_size rfl).mono ?_; rintro e w4 ⟨rfl, rfl⟩) | (go_at_call_of 12 (Value.string ⟨#[98, 111, 98]⟩); refine (own_fails (n := bob) (r := 0) hoj bob_size rfl).mono ?_; rintro e w4 ⟨rfl, rfl⟩) | (go_at_call_of 12 (Value.string ⟨#[97, 110, 110]⟩); refine (own_fails (n := ann) (r := (j : Int) % 3) hoj ann_size HR.out).mono ?_; rintro e w4 ⟨rfl, rfl⟩))
        go_ret
        exact ⟨rfl, hoj.2.1⟩

theorem name_ne {n : ByteArray} (h : n ≠ ann) (k : Nat) (s : ByteArray) (f : Int) (l : Bool) (t : Int) : findU [⟨ann, k, s, f, l, t⟩] n = none := by
  unfold findU
  rw [List.find?_eq_none]
  intro x hx
  simp at hx
  subst hx
  simp only [beq_iff_eq]
  intro e
  exact h (bytes_ext e.symm)

set_option maxRecDepth 100000 in
set_option maxHeartbeats 1600000 in
theorem usersNone_walk (name : ByteArray) (n now : Int) (w : World) (n0 : -9223372036854775808 ≤ now) (n1 : now ≤ 9223372036854775807) :
    Calls Try.prog 5 #[.string name, .int .i64 n, .int .i64 now] w fun e w' => e = .returned (.bool true) ∧ Kept (fun _ => False) w w' := by
  by_cases c0 : name = ann
  · have hname : (name.toList == [97, 110, 110]) = true := by rw [c0, ByteArray.toList_eq]; rfl
    clear c0
    go_enter Try.func5, Try.ntmps5
    go_wp2_with (go_at_call 7; refine (alive_any _).mono ?_; rintro e w1 ⟨rfl, hk1⟩)
    go_ret
    exact ⟨rfl, hk1⟩
  have hname : (name.toList == [97, 110, 110]) = false := by
    rw [beq_eq_false_iff_ne]
    intro e
    refine c0 (bytes_ext ?_)
    rw [← ByteArray.toList_eq, e]
    rfl
  have hF := fun k s f l t => name_ne c0 k s f l t
  have HNM := Lib.hid hF
  clear c0 hF
  by_cases c1 : (60 : Int) < name.size
  · go_enter Try.func5, Try.ntmps5
    go_wp2_with (go_at_call 7; refine (alive_any _).mono ?_; rintro e w1 ⟨rfl, hk1⟩)
    go_ret
    exact ⟨rfl, hk1⟩
  by_cases c2 : n < 0
  · go_enter Try.func5, Try.ntmps5
    go_wp2_with (go_at_call 7; refine (alive_any _).mono ?_; rintro e w1 ⟨rfl, hk1⟩)
    go_ret
    exact ⟨rfl, hk1⟩
  by_cases c3 : 10 < n
  · go_enter Try.func5, Try.ntmps5
    go_wp2_with (go_at_call 7; refine (alive_any _).mono ?_; rintro e w1 ⟨rfl, hk1⟩)
    go_ret
    exact ⟨rfl, hk1⟩
  obtain ⟨N, rfl⟩ : ∃ N : Nat, n = N := ⟨n.toNat, by omega⟩
  have d1 : N ≤ 10 := by omega
  have d2 : name.size ≤ maxLen := by unfold maxLen; omega
  have D2 := Lib.hid d2
  have d3 : name.size ≤ 60 := by omega
  clear c1 c2 c3 d2
  obtain ⟨s, hs, hsz⟩ : ∃ s, s = fillB ⟨#[115]⟩ 32 ∧ s.size = 32 := ⟨_, rfl, fillB_size _ _⟩
  have hfill := fun W => fill_any ⟨#[115]⟩ 32 W (by decide) (by decide)
  rw [← hs] at hfill
  have HF := Lib.hid hfill
  have HZ := Lib.hid hsz
  clear hs hfill hsz
  go_enter Try.func5, Try.ntmps5
  go_wp2_with fail
  refine (alive_any _).mono ?_
  rintro e w1 ⟨rfl, hk1⟩
  go_wp2_with fail
  refine (HF.out _).mono ?_
  rintro e w2 ⟨rfl, rfl⟩
  go_wp2_with fail
  have hnew := new_one ann s w1.heap.size (hk1.alloc (.cells #[.string ann, .string s] 29)) (heap_alloc_new w1 _) (right_ann HZ.out)
  refine hnew.mono ?_
  clear hnew hk1
  rintro e w2 ⟨b, m, k, rfl, ho0⟩
  have hF := HNM.out k s 0 false 0
  have HN2 := Lib.hid hF
  clear hF
  go_wp2_with fail
  go_loopw [9] (fun i wr => ∃ j : Nat, j ≤ N ∧ i = .int .i64 (j : Int) ∧ OwnU w wr b m [⟨ann, k, s, 0, false, 0⟩]) (fun i _ => N - (intOf i).toNat)
  case atStart => exact ⟨0, by omega, rfl, ho0⟩
  case round =>
    obtain ⟨j, hj, rfl, hoj⟩ := hrel
    by_cases hlt : j < N
    · go_wp2_with fail
      refine (own_fail_none hoj D2.out HN2.out).mono ?_
      rintro e w3 ⟨rfl, rfl⟩
      go_wp2_with fail
      refine (own_good_none hoj D2.out HN2.out).mono ?_
      rintro e w3 ⟨rfl, rfl⟩
      go_wp2_with fail
      go_roundw
      case rel => exact ⟨j + 1, by omega, by go_num, hoj⟩
      case measure => simp [intOf]; omega
    · have e1 : secretOf (findU [⟨ann, k, s, 0, false, 0⟩] name) = .tuple #[.string ⟨#[]⟩, .bool false] := by rw [HN2.out]; rfl
      have e2 : lockedB (findU [⟨ann, k, s, 0, false, 0⟩] name) now = false := by rw [HN2.out]; rfl
      have e3 : failsOf (findU [⟨ann, k, s, 0, false, 0⟩] name) = 0 := by rw [HN2.out]; rfl
      have E1 := Lib.hid e1
      have E2 := Lib.hid e2
      have E3 := Lib.hid e3
      clear e1 e2 e3
      go_wp2_with fail
      refine (own_secret hoj D2.out E1.out).mono ?_
      rintro e w3 ⟨rfl, rfl⟩
      go_wp2_with fail
      refine (own_locked hoj D2.out E2.out).mono ?_
      rintro e w3 ⟨rfl, rfl⟩
      go_wp2_with fail
      refine (own_fails hoj D2.out E3.out).mono ?_
      rintro e w3 ⟨rfl, rfl⟩
      go_wp2_with fail
      refine (own_fails (n := ann) (r := 0) hoj ann_size rfl).mono ?_
      rintro e w3 ⟨rfl, rfl⟩
      go_wp2_with fail
      go_ret
      exact ⟨rfl, hoj.2.1⟩
end Go.Proofs.Ytgfpcjieonniiaa
