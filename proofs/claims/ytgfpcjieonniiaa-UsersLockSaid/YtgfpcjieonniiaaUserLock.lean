/-
  UsersLock's walk: it returns true, whatever comes in.
-/
import Derived.Test.YtgfpcjieonniiaaUserLaws
namespace Go.Proofs.Ytgfpcjieonniiaa
open Go.RowKit Go.Maps

/-- New of one user that may not be. -/
theorem new_bad {w1 : World} (nm sec : ByteArray) (g : Nat) (hc : w1.heap[g]? = some (.cells #[.string nm, .string sec] 29 (0, 0))) (hv : rightB nm sec = false) :
    Calls Try.prog 9 #[.slice (some ⟨g, 0, none⟩) 1 1] w1 fun e w' => e = .returned (.tuple #[.pointer none, .int .i64 1]) ∧ Kept (fun _ => False) w1 w' := by
  have hrd : Rd w1 2 [(nm, sec)].length (.slice (some ⟨g, 0, none⟩) 1 1) ([(nm, sec)].flatMap userCells) := rd_block (vs := [.string nm, .string sec]) hc rfl
  refine (new_any (.slice (some ⟨g, 0, none⟩) 1 1) [(nm, sec)] w1 hrd).mono ?_
  rintro e w' ⟨hk2, h⟩
  have hvb : validB [(nm, sec)] = false := by simp [validB, hv]
  rw [hvb] at h
  exact ⟨h, hk2⟩

theorem find_one (nm : ByteArray) (k : Nat) (s : ByteArray) (f : Int) (l : Bool) (t : Int) : findU [⟨nm, k, s, f, l, t⟩] nm = some ⟨nm, k, s, f, l, t⟩ := by simp [findU]

/-- The user behind f failures; the third locks. -/
def lockAt (nm : ByteArray) (k : Nat) (s : ByteArray) (now : Int) (f : Nat) : Usr := if f < 3 then ⟨nm, k, s, (f : Int), false, 0⟩ else ⟨nm, k, s, 0, true, now + 20⟩
theorem lockAt_lt (nm : ByteArray) (k : Nat) (s : ByteArray) (now : Int) {f : Nat} (h : f < 3) : lockAt nm k s now f = ⟨nm, k, s, (f : Int), false, 0⟩ := if_pos h
theorem lockAt_failed (nm : ByteArray) (k : Nat) (s : ByteArray) (now : Int) (f : Nat) (hf : f < 3) (h : now ≤ 1000000) : failed (lockAt nm k s now f) now = (lockAt nm k s now (f + 1), decide (f + 1 = 3)) := by
  have hn : now ≤ 9223372036854775787 := by omega
  rw [lockAt_lt _ _ _ _ hf]
  unfold failed lockAt
  by_cases c : f + 1 < 3
  · have c2 : (f : Int) + 1 < 3 := by omega
    have c3 : ¬ f + 1 = 3 := by omega
    simp [c, c2, c3]
  · have c2 : ¬ (f : Int) + 1 < 3 := by omega
    have c3 : f + 1 = 3 := by omega
    simp [c2, c3, hn]
theorem find_lock (nm : ByteArray) (k : Nat) (s : ByteArray) (now : Int) (f : Nat) : findU [lockAt nm k s now f] nm = some (lockAt nm k s now f) := by unfold lockAt; split <;> exact find_one _ _ _ _ _ _
theorem lock_bounds (nm : ByteArray) (k : Nat) (s : ByteArray) (now : Int) (f : Nat) : 0 ≤ (lockAt nm k s now f).fails ∧ (lockAt nm k s now f).fails < 3 ∧ (lockAt nm k s now f).blk = k := by
  unfold lockAt
  split
  · exact ⟨by simp, by simp; omega, rfl⟩
  · exact ⟨by simp, by simp, rfl⟩

theorem own_lock {w w1 : World} {b m : Nat} {nm : ByteArray} {k : Nat} {s : ByteArray} {now : Int} {f : Nat} {r : Bool} (h : OwnU w w1 b m [lockAt nm k s now f]) (hn : nm.size ≤ maxLen) (hf : f < 3) (n0 : 0 ≤ now) (n1 : now ≤ 1000000) (hr : decide (f + 1 = 3) = r) :
    Calls Try.prog 10 #[.pointer (some ⟨b, 0, none⟩), .string nm, .int .i64 now] w1 fun e w' => e = .returned (.bool r) ∧ OwnU w w' b m [lockAt nm k s now (f + 1)] := by
  have hb := lock_bounds nm k s now f
  have hb2 := lock_bounds nm k s now (f + 1)
  refine own_fail h hn (find_lock nm k s now f) hb.1 hb.2.1 (by omega) (by omega) (hr ▸ lockAt_failed nm k s now f hf n1) ?_
  simp [turn, hb.2.2, hb2.2.2]

set_option maxRecDepth 100000 in
set_option maxHeartbeats 3200000 in
theorem usersLock_walk (name : ByteArray) (now ahead : Int) (good : Bool) (w : World) :
    Calls Try.prog 4 #[.string name, .int .i64 now, .int .i64 ahead, .bool good] w fun e w' => e = .returned (.bool true) ∧ Kept (fun _ => False) w w' := by
  by_cases c1 : now < 0
  · go_enter Try.func4, Try.ntmps4
    go_wp2_with (go_at_call 7; refine (alive_any _).mono ?_; rintro e w1 ⟨rfl, hk1⟩)
    go_ret
    exact ⟨rfl, hk1⟩
  by_cases c2 : 1000000 < now
  · go_enter Try.func4, Try.ntmps4
    go_wp2_with (go_at_call 7; refine (alive_any _).mono ?_; rintro e w1 ⟨rfl, hk1⟩)
    go_ret
    exact ⟨rfl, hk1⟩
  by_cases c3 : ahead < 0
  · go_enter Try.func4, Try.ntmps4
    go_wp2_with (go_at_call 7; refine (alive_any _).mono ?_; rintro e w1 ⟨rfl, hk1⟩)
    go_ret
    exact ⟨rfl, hk1⟩
  by_cases c4 : 3 ≤ ahead
  · go_enter Try.func4, Try.ntmps4
    go_wp2_with (go_at_call 7; refine (alive_any _).mono ?_; rintro e w1 ⟨rfl, hk1⟩)
    go_ret
    exact ⟨rfl, hk1⟩
  by_cases c5 : (100 : Int) < name.size
  · go_enter Try.func4, Try.ntmps4
    go_wp2_with (go_at_call 7; refine (alive_any _).mono ?_; rintro e w1 ⟨rfl, hk1⟩)
    go_ret
    exact ⟨rfl, hk1⟩
  obtain ⟨A, rfl⟩ : ∃ A : Nat, ahead = A := ⟨ahead.toNat, by omega⟩
  have d1 : A ≤ 2 := by omega
  have d2 : 0 ≤ now := by omega
  have d3 : now ≤ 1000000 := by omega
  have d4 : name.size ≤ 100 := by omega
  have d5 : name.size ≤ maxLen := by unfold maxLen; omega
  have D5 := Lib.hid d5
  clear c1 c2 c3 c4 c5 d5
  obtain ⟨s, hs, hsz⟩ : ∃ s, s = fillB ⟨#[115]⟩ 32 ∧ s.size = 32 := ⟨_, rfl, fillB_size _ _⟩
  have hfill := fun W => fill_any ⟨#[115]⟩ 32 W (by decide) (by decide)
  rw [← hs] at hfill
  have HF := Lib.hid hfill
  have HZ := Lib.hid hsz
  clear hs hfill hsz
  go_enter Try.func4, Try.ntmps4
  go_wp2_with fail
  refine (alive_any _).mono ?_
  rintro e w1 ⟨rfl, hk1⟩
  go_wp2_with fail
  refine (HF.out _).mono ?_
  rintro e w2 ⟨rfl, rfl⟩
  go_wp2_with fail
  have hka := hk1.alloc (.cells #[.string name, .string s] 29)
  cases hv : rightB name s with
  | false =>
    have hnew := new_bad name s w1.heap.size (heap_alloc_new w1 _) hv
    refine hnew.mono ?_
    clear hnew hk1 hv
    rintro e w2 ⟨rfl, hk2⟩
    go_wp2_with fail
    go_ret
    exact ⟨rfl, hka.trans hk2 (fun _ _ h => h)⟩
  | true =>
    have hnew := new_one name s w1.heap.size hka (heap_alloc_new w1 _) hv
    refine hnew.mono ?_
    clear hnew hk1 hv hka
    rintro e w2 ⟨b, m, k, rfl, ho⟩
    have ho0 : OwnU w w2 b m [lockAt name k s now 0] := ho
    clear ho
    go_wp2_with fail
    go_loopw [11] (fun i wr => ∃ j : Nat, j ≤ A ∧ i = .int .i64 (j : Int) ∧ OwnU w wr b m [lockAt name k s now j]) (fun i _ => A - (intOf i).toNat)
    case atStart => exact ⟨0, by omega, rfl, ho0⟩
    case round =>
      obtain ⟨j, hj, rfl, hoj⟩ := hrel
      by_cases hlt : j < A
      · have hr : decide (j + 1 = 3) = false := by simp; omega
        have HR := Lib.hid hr
        clear hr
        go_wp2_with fail
        refine (own_lock hoj D5.out (by omega) d2 d3 HR.out).mono ?_
        rintro e w3 ⟨rfl, hoj2⟩
        clear hoj
        go_wp2_with fail
        go_roundw
        case rel => exact ⟨j + 1, by omega, by go_num, hoj2⟩
        case measure => simp [intOf]; omega
      · obtain rfl : j = A := by omega
        go_upto_if 61 with (fail)
        go_cut [12] (fun v wc' => ∃ f0 : Nat, f0 ≤ 2 ∧ v = .int .i64 (3 - (f0 : Int)) ∧ OwnU w wc' b m [lockAt name k s now f0])
        case first =>
          cases good with
          | false =>
            go_wp2_with fail
            go_meet
            case rel => exact ⟨j, by omega, rfl, hoj⟩
          | true =>
            go_wp2_with fail
            have hgl : turn [lockAt name k s now j] { lockAt name k s now j with fails := 0 } = [lockAt name k s now 0] := by
              have hj3 : j < 3 := by omega
              rw [lockAt_lt _ _ _ _ hj3]
              simp [turn, lockAt]
            refine (own_good hoj D5.out (find_lock name k s now j) hgl).mono ?_
            rintro e w3 ⟨rfl, hoj2⟩
            clear hgl
            go_wp2_with fail
            go_meet
            case rel => exact ⟨0, by omega, rfl, hoj2⟩
        case rest =>
          obtain ⟨f0, hf0, rfl, ho1⟩ := hcut
          clear hoj
          go_wp2_with fail
          go_loopw [13] (fun i wr => ∃ j : Nat, j ≤ 3 - f0 ∧ i = .int .i64 ((j : Int) + 1) ∧ OwnU w wr b m [lockAt name k s now (f0 + j)]) (fun i _ => 4 - f0 - (intOf i).toNat)
          case atStart => exact ⟨0, by omega, rfl, ho1⟩
          case round =>
            obtain ⟨i, hi, rfl, hoi⟩ := hrel
            by_cases hlt2 : i < 3 - f0
            · have hr : decide (f0 + i + 1 = 3) = decide ((i : Int) + 1 = 3 - (f0 : Int)) := by simp only [decide_eq_decide]; omega
              have hl0 : lockedB (findU [lockAt name k s now (f0 + i)] name) now = false := by
                rw [find_lock, lockAt_lt _ _ _ _ (by omega)]; rfl
              have HR := Lib.hid hr
              have HL0 := Lib.hid hl0
              clear hr hl0
              have hq : ((i : Int) + 1 == 3 - (f0 : Int)) = decide ((i : Int) + 1 = 3 - (f0 : Int)) := by rw [Bool.eq_iff_iff]; simp
              go_wp2_with fail
              refine (own_locked hoi D5.out HL0.out).mono ?_
              rintro e w3 ⟨rfl, rfl⟩
              go_wp2_with fail
              refine (own_lock hoi D5.out (by omega) d2 d3 HR.out).mono ?_
              rintro e w3 ⟨rfl, hoi2⟩
              clear hoi
              go_wp2_with fail
              go_roundw
              case rel => exact ⟨i + 1, by omega, by go_num, by rw [← Nat.add_assoc]; exact hoi2⟩
              case measure => simp [intOf]; omega
            · have h3 : f0 + i = 3 := by omega
              rw [h3] at hoi
              have hlk : lockAt name k s now 3 = ⟨name, k, s, 0, true, now + 20⟩ := rfl
              rw [hlk] at hoi
              have e1 : lockedB (findU [⟨name, k, s, 0, true, now + 20⟩] name) now = true := by rw [find_one]; simp [lockedB]; omega
              have e2 : lockedB (findU [⟨name, k, s, 0, true, now + 20⟩] name) (now + 20) = true := by rw [find_one]; simp [lockedB]
              have e3 : lockedB (findU [⟨name, k, s, 0, true, now + 20⟩] name) (now + 20 + 1) = false := by rw [find_one]; simp [lockedB]; omega
              have e4 : failsOf (findU [⟨name, k, s, 0, true, now + 20⟩] name) = 0 := by rw [find_one]; rfl
              have E1 := Lib.hid e1
              have E2 := Lib.hid e2
              have E3 := Lib.hid e3
              have E4 := Lib.hid e4
              clear e1 e2 e3 e4 hlk h3
              go_wp2_with fail
              refine (own_locked hoi D5.out E1.out).mono ?_
              rintro e w3 ⟨rfl, rfl⟩
              go_wp2_with fail
              refine (own_locked hoi D5.out E2.out).mono ?_
              rintro e w3 ⟨rfl, rfl⟩
              go_wp2_with fail
              refine (own_locked hoi D5.out E3.out).mono ?_
              rintro e w3 ⟨rfl, rfl⟩
              go_wp2_with fail
              refine (own_fails hoi D5.out E4.out).mono ?_
              rintro e w3 ⟨rfl, rfl⟩
              go_wp2_with fail
              go_ret
              exact ⟨rfl, hoi.2.1⟩
end Go.Proofs.Ytgfpcjieonniiaa
