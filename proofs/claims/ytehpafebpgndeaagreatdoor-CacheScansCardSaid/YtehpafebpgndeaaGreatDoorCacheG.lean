/-
  Package cache's walks, the sixth part: sweep.
-/
import Derived.Test.YtehpafebpgndeaaGreatDoorCacheF
namespace Go.Proofs.YtehpafebpgndeaaGreatDoor
set_option linter.unusedVariables false
set_option linter.unusedSimpArgs false
set_option linter.unnecessarySimpa false
open Go.RowKit
set_option maxRecDepth 100000

/-- Those of M that are over are taken away, one after the other. -/
def sweepN (now : Int) (U M : List It) : List It := M.foldl (fun U x => if overB now x then delL U x.key else U) U
theorem sweepN_filter (now : Int) : ∀ (M U : List It), sweepN now U M = U.filter (fun y => !(M.any fun x => overB now x && decide (x.key = y.key)))
  | [], U => (List.filter_eq_self.2 (fun _ _ => rfl)).symm
  | x :: M, U => by
    have h := sweepN_filter now M (if overB now x then delL U x.key else U)
    have e : sweepN now U (x :: M) = sweepN now (if overB now x then delL U x.key else U) M := rfl
    rw [e, h]
    by_cases ho : overB now x = true
    · rw [if_pos ho]
      unfold delL
      rw [List.filter_filter]
      apply List.filter_congr
      intro y _
      rw [List.any_cons, ho]
      by_cases hk : x.key = y.key
      · simp [hk]
      · have : ¬ y.key = x.key := fun e => hk e.symm
        simp [hk, this]
    · have ho' : overB now x = false := by simpa using ho
      rw [if_neg ho]
      apply List.filter_congr
      intro y _
      rw [List.any_cons, ho']
      simp
theorem sweepN_take (now : Int) (U L : List It) {i : Nat} (hi : i < L.length) : sweepN now U (L.take (i + 1)) = if overB now L[i] then delL (sweepN now U (L.take i)) L[i].key else sweepN now U (L.take i) := by
  unfold sweepN
  rw [List.take_succ_eq_append_getElem hi, List.foldl_append]
  rfl
theorem itemsL_mem {U : List It} (hn : (keys U).Nodup) {x : It} : x ∈ itemsL U ↔ x ∈ U := by
  unfold itemsL
  rw [List.mem_map]
  constructor
  · rintro ⟨k, hk, rfl⟩
    have h1 := (sortB_perm (keys U)).mem_iff.1 hk
    unfold keys at h1
    obtain ⟨y, hy, rfl⟩ := List.mem_map.1 h1
    rw [(look_mem hn).2 ⟨hy, rfl⟩]
    exact hy
  · intro h
    refine ⟨x.key, (sortB_perm (keys U)).mem_iff.2 (List.mem_map.2 ⟨x, h, rfl⟩), ?_⟩
    rw [(look_mem hn).2 ⟨h, rfl⟩]
    rfl
theorem sweepN_items {U : List It} (hn : (keys U).Nodup) (now : Int) : sweepN now U (itemsL U) = sweepC now U := by
  rw [sweepN_filter]
  unfold sweepC
  apply List.filter_congr
  intro y hy
  congr 1
  rw [Bool.eq_iff_iff, List.any_eq_true]
  constructor
  · rintro ⟨x, hx, h⟩
    rw [Bool.and_eq_true, decide_eq_true_iff] at h
    have h1 := (itemsL_mem hn).1 hx
    have h2 := (look_mem hn).2 ⟨h1, h.2⟩
    have h3 := (look_mem hn).2 ⟨hy, rfl⟩
    rw [h2] at h3
    injection h3 with h3
    rw [← h3]
    exact h.1
  · intro h
    exact ⟨y, (itemsL_mem hn).2 hy, by rw [h]; simp⟩

/-- A cache, and a slice of items that is none of its own. -/
def Beside (w0 : World) (c : Nat) (O0 : Nat → Prop) (s : CSt) (v : Value) (n : Nat) (L : List It) (wr : World) : Prop :=
  ∃ O', CS wr c O' s ∧ Grew O0 w0 O' wr ∧ Sl wr 23 4 n v (flat L) ∧ ∀ k, v.ownBlock = some k → ¬ O' k
theorem Beside.kept0 {w0 wr w' : World} {c : Nat} {O0 : Nat → Prop} {s : CSt} {v : Value} {n : Nat} {L : List It} (h : Beside w0 c O0 s v n L wr) (hk : Kept (fun _ => False) wr w') : Beside w0 c O0 s v n L w' := by
  obtain ⟨O', h1, h2, h3, h4⟩ := h
  exact ⟨O', h1.kept0 hk, h2.kept hk, h3.kept hk (fun _ _ h => h), h4⟩
theorem Beside.del {w0 wr : World} {c : Nat} {O0 : Nat → Prop} {s : CSt} {v : Value} {n : Nat} {L : List It} (h : Beside w0 c O0 s v n L wr) (key : ByteArray) (hu : usedL s.U ≤ 10000000) (hkey : key.size ≤ 1000000) :
    Calls Tryz.prog 102 #[.pointer (some ⟨c, 0, none⟩), .string key] wr fun e w' => e = .returned (.tuple #[]) ∧ Beside w0 c O0 { s with U := delL s.U key } v n L w' := by
  obtain ⟨O', h1, h2, h3, h4⟩ := h
  refine (cdel c O' s key wr h1 hu hkey).mono ?_
  rintro e w' ⟨rfl, O'', g1, g2⟩
  exact ⟨rfl, O'', g1, h2.trans g2, h3.kept g2.1 (fun k e => h4 k e), fun k e hO => (g2.2 k hO).elim (h4 k e) (fun hh => by have := h3.lt e; omega)⟩

set_option maxHeartbeats 4000000 in
theorem csweep (c : Nat) (O : Nat → Prop) (s : CSt) (now : Int) (w : World) (h : CS w c O s) (hu : usedL s.U ≤ 3000000) (hkeys : ∀ x ∈ s.U, x.key.size ≤ 1000000) (h0 : 0 ≤ now) (h1 : now ≤ 1000000000000) (htil : ∀ x ∈ s.U, 0 ≤ x.til ∧ x.til ≤ 2000000000000) :
    Calls Tryz.prog 50 #[.pointer (some ⟨c, 0, none⟩), .int .i64 now] w fun e w' => e = .returned (.tuple #[]) ∧ Steps w c O { s with U := sweepC now s.U } w' := by
  have hge := usedL_ge s.U
  have hnd := h.nodup
  have hl : s.U.length ≤ 200000 := by omega
  have IT := Lib.hid (citems c O s w h hl hkeys)
  have MEM := Lib.hid (fun x (hx : x ∈ itemsL s.U) => (⟨hkeys x ((itemsL_mem hnd).1 hx), htil x ((itemsL_mem hnd).1 hx)⟩ : x.key.size ≤ 1000000 ∧ 0 ≤ x.til ∧ x.til ≤ 2000000000000))
  have FIN := Lib.hid (sweepN_items hnd now)
  have LEN := Lib.hid (itemsL_length s.U)
  have USED := Lib.hid (fun i => (by rw [sweepN_filter]; exact usedL_filter_le _ _ : usedL (sweepN now s.U ((itemsL s.U).take i)) ≤ usedL s.U))
  have TAKE := Lib.hid (fun i (hi : i < (itemsL s.U).length) => sweepN_take now s.U (itemsL s.U) hi)
  clear h hkeys htil hnd
  obtain ⟨n, hn⟩ : ∃ n, n = s.U.length := ⟨_, rfl⟩
  have IT2 := Lib.hid (show Calls Tryz.prog 28 #[.pointer (some ⟨c, 0, none⟩)] w (fun e w' => ∃ v O', e = .returned v ∧ CS w' c O' s ∧ Grew O w O' w' ∧ Sl w' 23 4 n v (flat (itemsL s.U)) ∧ (∀ k, v.ownBlock = some k → w.heap.size ≤ k ∧ ¬ O' k)) from by rw [hn]; exact IT.out)
  rw [← hn] at hl
  have HLEN := Lib.hid (LEN.out.trans hn.symm)
  clear IT LEN hn
  generalize itemsL s.U = L at *
  go_enter Tryz.func50, Tryz.ntmps50
  go_wp2_with fail
  refine IT2.out.mono ?_
  rintro e w1 ⟨v, O1, rfl, a1, a2, a3, a4⟩
  obtain ⟨ao, ca, rfl, hca⟩ := (Rd.of_sl a3).shape
  have ST : Hid (Beside w c O { s with U := sweepN now s.U (L.take 0) } (.slice ao n ca) n L w1) := Lib.hid ⟨O1, a1, a2, a3, fun k e => (a4 k e).2⟩
  clear a1 a2 a3 a4
  go_wp2_with fail
  go_loopg [9] n (fun gk k wr => ∃ i : Nat, i + gk = n ∧ k = .int .i64 (i : Int) ∧ Beside w c O { s with U := sweepN now s.U (L.take i) } (.slice ao n ca) n L wr)
  case atStart => exact ⟨0, by omega, rfl, ST.out⟩
  case round =>
    obtain ⟨i, hi', rfl, hj⟩ := hrel
    by_cases hlt : i < n
    · have hil : i < L.length := by rw [HLEN.out]; exact hlt
      have hsl : Sl wr 23 4 L.length (.slice ao n ca) (flat L) := by obtain ⟨O', _, _, h3, _⟩ := hj; rw [HLEN.out]; exact h3
      obtain ⟨g, off, rfl, x0, x1, x2, x3⟩ := rd_it (Rd.of_sl hsl) rfl i hil
      obtain ⟨k1, k2, k3⟩ := MEM.out _ (List.getElem_mem hil)
      have hus := USED.out i
      have hbox := hj.kept0 ((Kept.refl _ wr).alloc (itBox (L[i]'hil)))
      have hdel := hbox.del (L[i]'hil).key (by simp only; omega) k1
      have DEL := Lib.hid hdel
      have TK := Lib.hid (TAKE.out i hil)
      have BOX := Lib.hid hbox
      clear hj hsl hdel hbox hus
      generalize (L[i]'hil) = it at *
      by_cases ho : 0 < it.til
      · by_cases ho2 : it.til < now
        · have hov : overB now it = true := by unfold overB; rw [decide_eq_true ho, decide_eq_true ho2]; rfl
          rw [hov, if_pos rfl] at TK
          go_wp2_with fail
          refine DEL.out.mono ?_
          rintro e w3 ⟨rfl, hb⟩
          have HB := Lib.hid hb
          clear hb
          go_wp2_with fail
          go_roundg (gk - 1)
          case measure => omega
          case rel => exact ⟨i + 1, by omega, by go_num, by rw [TK.out]; exact HB.out⟩
        · have hov : overB now it = false := by unfold overB; rw [decide_eq_false ho2]; simp
          rw [hov] at TK
          go_wp2_with fail
          go_roundg (gk - 1)
          case measure => omega
          case rel => exact ⟨i + 1, by omega, by go_num, by rw [TK.out]; exact BOX.out⟩
      · have hov : overB now it = false := by unfold overB; rw [decide_eq_false ho]; simp
        rw [hov] at TK
        go_wp2_with fail
        go_roundg (gk - 1)
        case measure => omega
        case rel => exact ⟨i + 1, by omega, by go_num, by rw [TK.out]; exact BOX.out⟩
    · obtain rfl : i = n := by omega
      rw [List.take_of_length_le (by rw [HLEN.out]; exact Nat.le_refl _), FIN.out] at hj
      have HJ := Lib.hid hj
      clear hj
      go_wp2_with fail
      go_end0
      obtain ⟨O', h1, h2, _⟩ := HJ.out
      exact ⟨rfl, O', h1, h2⟩
end Go.Proofs.YtehpafebpgndeaaGreatDoor
