/-
  Package cache in words of items: what each command does, case by case, and what the laws' commands tell. Plain laws, no program in sight.
-/
import Derived.Test.YtekcjoogggoijaaGreatDoorCp22
set_option linter.unusedVariables false
set_option linter.unusedSimpArgs false
set_option linter.unnecessarySimpa false
namespace Go.Proofs.YtekcjoogggoijaaGreatDoor
open Go.RowKit
set_option maxRecDepth 100000


theorem sweep_still {now : Int} {U : List It} (h : ∀ x ∈ U, x.til = 0 ∨ now ≤ x.til) : sweepC now U = U := by
  unfold sweepC
  refine List.filter_eq_self.2 fun x hx => ?_
  have h2 := h x hx
  unfold overB
  by_cases h1 : 0 < x.til
  · rw [decide_eq_true h1, decide_eq_false (by omega)]; rfl
  · rw [decide_eq_false h1]; rfl
theorem doC_in {s : CSt} {x : Cm} {now : Int} (hr : rightC x) (h0 : 0 ≤ now) (h1 : now ≤ 1000000000000) (hs : ∀ y ∈ s.U, y.til = 0 ∨ now ≤ y.til) : doC s x now = didC s x now := by
  unfold doC
  rw [if_neg (fun h => h.elim (fun h => h hr) (fun h => by omega)), sweep_still hs]
theorem doC_out {s : CSt} {x : Cm} {now : Int} (h : ¬ rightC x ∨ now < 0 ∨ 1000000000000 < now) : doC s x now = (Rp.err 1, s) := if_pos h

theorem putC_nil (x : It) : putC [] x = [x] := rfl
theorem putC_one {x y : It} (h : y.key = x.key) : putC [y] x = [x] := by
  unfold putC delL
  rw [List.filter_cons_of_neg (by simp [h])]
  rfl
theorem putC_fresh {U : List It} {x : It} (h : look U x.key = none) : putC U x = U ++ [x] := by unfold putC; rw [look_none_del h]
theorem look_nil (k : ByteArray) : look [] k = none := rfl
theorem look_one (x : It) : look [x] x.key = some x := by unfold look; rw [List.find?_cons_of_pos (by simp)]
theorem look_one_not {x : It} {k : ByteArray} (h : x.key ≠ k) : look [x] k = none := by unfold look; rw [List.find?_cons_of_neg (by simp [h])]; rfl
theorem look_del_same (U : List It) (k : ByteArray) : look (delL U k) k = none := by
  unfold look delL
  rw [List.find?_eq_none]
  intro x hx
  have := (List.mem_filter.1 hx).2
  simpa using this
theorem look_del_other (U : List It) {k j : ByteArray} (h : j ≠ k) : look (delL U k) j = look U j := by
  unfold look delL
  rw [List.find?_filter]
  congr 1
  funext x
  by_cases hx : x.key = j
  · simp [hx, h]
  · simp [hx]
theorem look_put_same (U : List It) (x : It) : look (putC U x) x.key = some x := by
  have h := look_del_same U x.key
  unfold putC look at *
  rw [List.find?_append, h]
  simp
theorem look_put_other (U : List It) (x : It) {k : ByteArray} (h : k ≠ x.key) : look (putC U x) k = look U k := by
  have h1 := look_del_other U h
  unfold putC look at *
  rw [List.find?_append, h1]
  have : ¬ x.key = k := fun e => h e.symm
  simp [this]
theorem hasB_look (U : List It) (k : ByteArray) : hasB U k = (look U k).isSome := (look_has U k).symm
theorem usedL_put_none {U : List It} {x : It} (h : look U x.key = none) : usedL (putC U x) = usedL U + costI x := by
  rw [putC_fresh h, usedL_snoc]
theorem usedL_put_some {U : List It} (hn : (keys U).Nodup) {x y : It} (h : look U x.key = some y) : usedL (putC U x) = usedL U - costI y + costI x := by
  unfold putC
  rw [usedL_snoc, usedL_del_some hn h]
theorem usedL_put_le (U : List It) (x : It) : usedL (putC U x) ≤ usedL U + costI x := by
  unfold putC
  rw [usedL_snoc]
  have := usedL_filter_le (fun y : It => decide (y.key ≠ x.key)) U
  unfold delL
  omega
theorem putC_len_some {U : List It} (hn : (keys U).Nodup) {x y : It} (h : look U x.key = some y) : (putC U x).length = U.length := by
  have := delL_length hn h
  unfold putC
  rw [List.length_append, List.length_singleton]
  omega
theorem putC_len_none {U : List It} {x : It} (h : look U x.key = none) : (putC U x).length = U.length + 1 := by
  rw [putC_fresh h, List.length_append, List.length_singleton]

theorem write_big {s : CSt} {x : It} (h : s.bud < costI x) : writeC s x = (Rp.err 13, s) := if_pos h
theorem write_room {s : CSt} {x : It} (h : usedL (putC s.U ⟨x.key, x.val, s.ver + 1, x.til⟩) ≤ s.bud) :
    writeC s x = (⟨0, ⟨#[]⟩, 0, s.ver + 1, []⟩, ⟨s.bud, putC s.U ⟨x.key, x.val, s.ver + 1, x.til⟩, s.ver + 1, s.gone⟩) := by
  have hc : ¬ s.bud < costI x := by
    have h2 := usedL_snoc (delL s.U x.key) ⟨x.key, x.val, s.ver + 1, x.til⟩
    have h3 := usedL_ge (delL s.U x.key)
    have h4 : costI ⟨x.key, x.val, s.ver + 1, x.til⟩ = costI x := rfl
    unfold putC at h
    simp only at h
    omega
  unfold writeC
  rw [if_neg hc]
  simp only
  rw [evict_room h, Int.sub_self, Int.add_zero]

section
variable {s : CSt} {x : Cm} {now : Int}
theorem did_of_set (hop : x.op = 2 ∨ x.op = 3 ∨ x.op = 4 ∨ x.op = 6) : didC s x now = setC s x now := if_pos hop
theorem did_of_item (hop : x.op = 1 ∨ x.op = 5 ∨ x.op = 7 ∨ x.op = 8 ∨ x.op = 9 ∨ x.op = 10) : didC s x now = itemC s x now := by
  unfold didC
  rw [if_neg (by omega), if_neg (by omega), if_neg (by omega), if_neg (by omega)]
theorem did_scan (hop : x.op = 11) : didC s x now = scanC s x := by
  unfold didC
  rw [if_neg (by omega), if_pos hop]
theorem did_flush (hop : x.op = 12) : didC s x now = (⟨0, ⟨#[]⟩, s.U.length, 0, []⟩, { s with U := [] }) := by
  unfold didC
  rw [if_neg (by omega), if_neg (by omega), if_pos hop]
theorem did_stats (hop : x.op = 13) : didC s x now = (⟨0, ⟨#[]⟩, s.U.length, usedL s.U, []⟩, s) := by
  unfold didC
  rw [if_neg (by omega), if_neg (by omega), if_neg (by omega), if_pos hop]
theorem did_neg (hop : x.op = 2 ∨ x.op = 3 ∨ x.op = 4 ∨ x.op = 6 ∨ x.op = 9) (hn : x.num < 0) : didC s x now = (Rp.err 1, s) := by
  by_cases h9 : x.op = 9
  · rw [did_of_item (by omega)]
    unfold itemC
    rw [if_pos ⟨h9, hn⟩]
  · rw [did_of_set (by omega)]
    unfold setC
    rw [if_pos hn]
theorem did_set (hop : x.op = 2) (hn : 0 ≤ x.num) : didC s x now = writeC s ⟨x.key, x.val, 0, untilC x.num now⟩ := by
  rw [did_of_set (by omega)]
  unfold setC
  rw [if_neg (by omega), if_neg (fun h => by omega), if_neg (fun h => by omega), if_neg (fun h => by omega)]
theorem did_add_there {y : It} (hop : x.op = 3) (hn : 0 ≤ x.num) (h : look s.U x.key = some y) : didC s x now = (Rp.err 10, s) := by
  rw [did_of_set (by omega)]
  unfold setC
  rw [if_neg (by omega), if_pos ⟨hop, by rw [hasB_look, h]; rfl⟩]
theorem did_add (hop : x.op = 3) (hn : 0 ≤ x.num) (h : look s.U x.key = none) : didC s x now = writeC s ⟨x.key, x.val, 0, untilC x.num now⟩ := by
  rw [did_of_set (by omega)]
  unfold setC
  rw [if_neg (by omega), if_neg (fun h2 => by rw [hasB_look, h] at h2; cases h2.2), if_neg (fun h => by omega), if_neg (fun h => by omega)]
theorem did_set_none (hop : x.op = 4 ∨ x.op = 6) (hn : 0 ≤ x.num) (h : look s.U x.key = none) : didC s x now = (Rp.err 9, s) := by
  rw [did_of_set (by omega)]
  unfold setC
  rw [if_neg (by omega), if_neg (fun h => by omega), if_pos ⟨hop, by rw [hasB_look, h]; rfl⟩]
theorem did_replace {y : It} (hop : x.op = 4) (hn : 0 ≤ x.num) (h : look s.U x.key = some y) : didC s x now = writeC s ⟨x.key, x.val, 0, untilC x.num now⟩ := by
  rw [did_of_set (by omega)]
  unfold setC
  rw [if_neg (by omega), if_neg (fun h => by omega), if_neg (fun h2 => by rw [hasB_look, h] at h2; cases h2.2), if_neg (fun h => by omega)]
theorem did_cas_other {y : It} (hop : x.op = 6) (hn : 0 ≤ x.num) (h : look s.U x.key = some y) (hv : x.ver ≠ y.ver) : didC s x now = (Rp.err 11, s) := by
  rw [did_of_set (by omega)]
  unfold setC
  rw [if_neg (by omega), if_neg (fun h => by omega), if_neg (fun h2 => by rw [hasB_look, h] at h2; cases h2.2), if_pos ⟨hop, by rw [h]; exact hv⟩]
theorem did_cas {y : It} (hop : x.op = 6) (hn : 0 ≤ x.num) (h : look s.U x.key = some y) (hv : x.ver = y.ver) : didC s x now = writeC s ⟨x.key, x.val, 0, untilC x.num now⟩ := by
  rw [did_of_set (by omega)]
  unfold setC
  rw [if_neg (by omega), if_neg (fun h => by omega), if_neg (fun h2 => by rw [hasB_look, h] at h2; cases h2.2), if_neg (fun h2 => by rw [h] at h2; exact h2.2 hv)]
theorem did_none (hop : x.op = 1 ∨ x.op = 5 ∨ x.op = 7 ∨ x.op = 8 ∨ x.op = 9 ∨ x.op = 10) (hn : x.op = 9 → 0 ≤ x.num) (h : look s.U x.key = none) : didC s x now = (Rp.err 9, s) := by
  rw [did_of_item hop]
  unfold itemC
  rw [if_neg (fun h => by have := hn h.1; omega), h]
theorem did_get {y : It} (hop : x.op = 1) (h : look s.U x.key = some y) : didC s x now = (⟨0, y.val, 0, y.ver, []⟩, { s with U := putC s.U y }) := by
  rw [did_of_item (by omega)]
  unfold itemC
  rw [if_neg (fun h => by omega), h]
  simp only
  rw [if_pos hop]
theorem did_ttl {y : It} (hop : x.op = 10) (h : look s.U x.key = some y) : didC s x now = (⟨0, ⟨#[]⟩, if y.til = 0 then -1 else y.til - now, 0, []⟩, s) := by
  rw [did_of_item (by omega)]
  unfold itemC
  rw [if_neg (fun h => by omega), h]
  simp only
  rw [if_neg (by omega), if_pos hop]
  split <;> rfl
theorem did_del {y : It} (hop : x.op = 5) (h : look s.U x.key = some y) : didC s x now = (Rp.err 0, { s with U := delL s.U x.key }) := by
  rw [did_of_item (by omega)]
  unfold itemC
  rw [if_neg (fun h => by omega), h]
  simp only
  rw [if_neg (by omega), if_neg (by omega), if_pos hop]
theorem did_touch {y : It} (hop : x.op = 9) (hn : 0 ≤ x.num) (h : look s.U x.key = some y) : didC s x now = (Rp.err 0, { s with U := putC s.U ⟨y.key, y.val, y.ver, untilC x.num now⟩ }) := by
  rw [did_of_item (by omega)]
  unfold itemC
  rw [if_neg (fun h => by omega), h]
  simp only
  rw [if_neg (by omega), if_neg (by omega), if_neg (by omega), if_pos hop]
theorem did_incr {y : It} (hop : x.op = 7) (h : look s.U x.key = some y) : didC s x now = incrC s y x.num := by
  rw [did_of_item (by omega)]
  unfold itemC
  rw [if_neg (fun h => by omega), h]
  simp only
  rw [if_neg (by omega), if_neg (by omega), if_neg (by omega), if_neg (by omega), if_pos hop]
theorem did_app {y : It} (hop : x.op = 8) (h : look s.U x.key = some y) : didC s x now = behindC s y x.val := by
  rw [did_of_item (by omega)]
  unfold itemC
  rw [if_neg (fun h => by omega), h]
  simp only
  rw [if_neg (by omega), if_neg (by omega), if_neg (by omega), if_neg (by omega), if_neg (by omega)]
end
/-- Commands, one after the other, each a tick later. -/
def runC : CSt → List Cm → Int → List Rp × CSt
  | s, [], _ => ([], s)
  | s, x :: r, now => ((doC s x now).1 :: (runC (doC s x now).2 r (now + 1)).1, (runC (doC s x now).2 r (now + 1)).2)
theorem runC_length : ∀ (l : List Cm) (s : CSt) (now : Int), (runC s l now).1.length = l.length
  | [], _, _ => rfl
  | x :: r, s, now => by rw [runC, List.length_cons, runC_length r, List.length_cons]
/-- The state ahead of the i-th. -/
def atC (s : CSt) (l : List Cm) (now : Int) (i : Nat) : CSt := (runC s (l.take i) now).2
theorem atC_succ : ∀ (l : List Cm) (s : CSt) (now : Int) (i : Nat) (h : i < l.length), atC s l now (i + 1) = (doC (atC s l now i) l[i] (now + i)).2
  | x :: r, s, now, 0, h => by
    rw [show (((0 : Nat) : Int)) = 0 from rfl, Int.add_zero]
    rfl
  | x :: r, s, now, i + 1, h => by
    have h1 := atC_succ r (doC s x now).2 (now + 1) i (by simpa using h)
    have e : ((i + 1 : Nat) : Int) = 1 + (i : Int) := by omega
    rw [e, ← Int.add_assoc]
    exact h1
theorem runC_take_succ : ∀ (l : List Cm) (s : CSt) (now : Int) (i : Nat) (h : i < l.length), (runC s l now).1.take (i + 1) = (runC s l now).1.take i ++ [(doC (atC s l now i) l[i] (now + i)).1]
  | x :: r, s, now, 0, h => by
    rw [show (((0 : Nat) : Int)) = 0 from rfl, Int.add_zero]
    rfl
  | x :: r, s, now, i + 1, h => by
    have h1 := runC_take_succ r (doC s x now).2 (now + 1) i (by simpa using h)
    have e : ((i + 1 : Nat) : Int) = 1 + (i : Int) := by omega
    rw [e, ← Int.add_assoc, runC, List.take_succ_cons, h1, List.take_succ_cons, List.cons_append]
    rfl

theorem right_of {x : Cm} (h0 : 1 ≤ x.op) (h1 : x.op ≤ 10) (hk0 : 1 ≤ x.key.size) (hk1 : x.key.size ≤ 60) (hv : x.val.size ≤ 500) (hn0 : -1000000000000 ≤ x.num) (hn1 : x.num ≤ 1000000000000) (hr0 : 0 ≤ x.ver) (hr1 : x.ver ≤ 1000000000000) : rightC x := by
  refine ⟨h0, by omega, ?_, hv, hn0, hn1, hr0, hr1⟩
  unfold keyOk
  rw [if_neg (by omega), if_neg (by omega)]
  exact ⟨hk0, hk1⟩
theorem runC_one {s s' : CSt} {x : Cm} {l : List Cm} {now : Int} {a : Rp} {b : List Rp} (h : doC s x now = (a, s')) (h2 : (runC s' l (now + 1)).1 = b) : (runC s (x :: l) now).1 = a :: b := by
  rw [runC, h]
  simp only
  rw [h2]
theorem newC_at {b : Int} (h0 : 0 ≤ b) (h1 : b ≤ 1000000) : newC b = ⟨b, [], 0, 0⟩ := by
  unfold newC
  rw [show min (max b 0) 1000000 = b by omega]
/-- A write of the one item there is. -/
theorem one_write {bud : Int} {y : It} {x : It} {ver gone : Int} (hk : y.key = x.key) (hb : costI x ≤ bud) : writeC ⟨bud, [y], ver, gone⟩ x = (⟨0, ⟨#[]⟩, 0, ver + 1, []⟩, ⟨bud, [⟨x.key, x.val, ver + 1, x.til⟩], ver + 1, gone⟩) := by
  have h := write_room (s := ⟨bud, [y], ver, gone⟩) (x := x) (by
    rw [putC_one (x := ⟨x.key, x.val, ver + 1, x.til⟩) hk, usedL_cons, usedL_nil]
    unfold costI at hb ⊢
    simp only
    omega)
  rw [h, putC_one (x := ⟨x.key, x.val, ver + 1, x.til⟩) hk]
theorem first_write {bud : Int} {x : It} {ver gone : Int} (hb : costI x ≤ bud) : writeC ⟨bud, [], ver, gone⟩ x = (⟨0, ⟨#[]⟩, 0, ver + 1, []⟩, ⟨bud, [⟨x.key, x.val, ver + 1, x.til⟩], ver + 1, gone⟩) := by
  have h := write_room (s := ⟨bud, [], ver, gone⟩) (x := x) (by
    rw [putC_nil, usedL_cons, usedL_nil]
    unfold costI at hb ⊢
    simp only
    omega)
  rw [h, putC_nil]

theorem cas_run {key a b : ByteArray} {ver : Int} (hk0 : 1 ≤ key.size) (hk1 : key.size ≤ 60) (ha : a.size ≤ 100) (hb : b.size ≤ 100) (h0 : 0 ≤ ver) (h1 : ver ≤ 10) :
    (runC (newC 100000) [⟨2, key, a, 0, 0⟩, ⟨6, key, b, 0, ver⟩, ⟨1, key, ⟨#[]⟩, 0, 0⟩] 1).1 = if ver = 1 then [⟨0, ⟨#[]⟩, 0, 1, []⟩, ⟨0, ⟨#[]⟩, 0, 2, []⟩, ⟨0, b, 0, 2, []⟩] else [⟨0, ⟨#[]⟩, 0, 1, []⟩, Rp.err 11, ⟨0, a, 0, 1, []⟩] := by
  rw [newC_at (by decide) (by decide)]
  have e1 : doC ⟨100000, [], 0, 0⟩ ⟨2, key, a, 0, 0⟩ 1 = (⟨0, ⟨#[]⟩, 0, 1, []⟩, ⟨100000, [⟨key, a, 1, 0⟩], 1, 0⟩) :=
    (doC_in (right_of (by simp) (by simp) hk0 hk1 (by simp only; omega) (by simp) (by simp) (by simp) (by simp)) (by decide) (by decide) (fun y hy => by cases hy)).trans
      ((did_set rfl (by simp)).trans (first_write (by unfold costI; simp only; omega)))
  have hone : ∀ (v : ByteArray) (n : Int), ∀ y ∈ [(⟨key, v, n, 0⟩ : It)], y.til = 0 ∨ (2 : Int) ≤ y.til := fun v n y hy => by rw [List.mem_singleton.1 hy]; exact .inl rfl
  have hone3 : ∀ (v : ByteArray) (n : Int), ∀ y ∈ [(⟨key, v, n, 0⟩ : It)], y.til = 0 ∨ (3 : Int) ≤ y.til := fun v n y hy => by rw [List.mem_singleton.1 hy]; exact .inl rfl
  have r2 : rightC ⟨6, key, b, 0, ver⟩ := right_of (by simp) (by simp) hk0 hk1 (by simp only; omega) (by simp) (by simp) (by simp only; omega) (by simp only; omega)
  have r3 : rightC ⟨1, key, ⟨#[]⟩, 0, 0⟩ := right_of (by simp) (by simp) hk0 hk1 (show (⟨#[]⟩ : ByteArray).size ≤ 500 by decide) (by simp) (by simp) (by simp) (by simp)
  have hg : ∀ (v : ByteArray) (n ver : Int), doC ⟨100000, [⟨key, v, n, 0⟩], ver, 0⟩ ⟨1, key, ⟨#[]⟩, 0, 0⟩ 3 = (⟨0, v, 0, n, []⟩, ⟨100000, [⟨key, v, n, 0⟩], ver, 0⟩) := fun v n ver => by
    rw [doC_in r3 (by decide) (by decide) (hone3 v n), did_get (y := ⟨key, v, n, 0⟩) rfl (look_one ⟨key, v, n, 0⟩)]
    rw [putC_one rfl]
  by_cases hv : ver = 1
  · rw [if_pos hv]
    refine runC_one e1 (runC_one (s' := ⟨100000, [⟨key, b, 2, 0⟩], 2, 0⟩) ((doC_in r2 (by decide) (by decide) (hone a 1)).trans ((did_cas (y := ⟨key, a, 1, 0⟩) rfl (by simp) (look_one ⟨key, a, 1, 0⟩) hv).trans ?_)) (runC_one (hg b 2 2) rfl))
    exact one_write rfl (by unfold costI; simp only; omega)
  · rw [if_neg hv]
    exact runC_one e1 (runC_one ((doC_in r2 (by decide) (by decide) (hone a 1)).trans (did_cas_other (y := ⟨key, a, 1, 0⟩) rfl (by simp) (look_one ⟨key, a, 1, 0⟩) hv)) (runC_one (hg a 1 1) rfl))

theorem there_run {key a b : ByteArray} (hk0 : 1 ≤ key.size) (hk1 : key.size ≤ 60) (ha : a.size ≤ 100) (hb : b.size ≤ 100) :
    (runC (newC 100000) [⟨4, key, a, 0, 0⟩, ⟨3, key, a, 0, 0⟩, ⟨3, key, b, 0, 0⟩, ⟨4, key, b, 0, 0⟩, ⟨1, key, ⟨#[]⟩, 0, 0⟩, ⟨5, key, ⟨#[]⟩, 0, 0⟩, ⟨5, key, ⟨#[]⟩, 0, 0⟩, ⟨1, key, ⟨#[]⟩, 0, 0⟩] 1).1
      = [Rp.err 9, ⟨0, ⟨#[]⟩, 0, 1, []⟩, Rp.err 10, ⟨0, ⟨#[]⟩, 0, 2, []⟩, ⟨0, b, 0, 2, []⟩, Rp.err 0, Rp.err 9, Rp.err 9] := by
  rw [newC_at (by decide) (by decide)]
  have rr : ∀ (op : Int) (v : ByteArray), 1 ≤ op → op ≤ 10 → v.size ≤ 100 → rightC ⟨op, key, v, 0, 0⟩ := fun op v h1 h2 h3 => right_of h1 h2 hk0 hk1 (by simp only; omega) (by simp) (by simp) (by simp) (by simp)
  have hz : (⟨#[]⟩ : ByteArray).size ≤ 100 := by decide
  have hone : ∀ (v : ByteArray) (n now : Int), ∀ y ∈ [(⟨key, v, n, 0⟩ : It)], y.til = 0 ∨ now ≤ y.til := fun v n now y hy => by rw [List.mem_singleton.1 hy]; exact .inl rfl
  have hnil : ∀ now : Int, ∀ y ∈ ([] : List It), y.til = 0 ∨ now ≤ y.til := fun now y hy => by cases hy
  have n0 : ∀ (op : Int) (v : ByteArray) (now ver : Int), op = 1 ∨ op = 5 → v.size ≤ 100 → 0 ≤ now → now ≤ 10 → doC ⟨100000, [], ver, 0⟩ ⟨op, key, v, 0, 0⟩ now = (Rp.err 9, ⟨100000, [], ver, 0⟩) := fun op v now ver ho hv h0 h1 =>
    (doC_in (rr op v (by omega) (by omega) hv) h0 (by omega) (hnil now)).trans (did_none (by simp only; omega) (by simp) (look_nil key))
  refine runC_one (s' := ⟨100000, [], 0, 0⟩) ((doC_in (rr 4 a (by decide) (by decide) ha) (by decide) (by decide) (hnil 1)).trans (did_set_none (.inl rfl) (by simp) (look_nil key))) ?_
  refine runC_one (s' := ⟨100000, [⟨key, a, 1, 0⟩], 1, 0⟩) ((doC_in (rr 3 a (by decide) (by decide) ha) (by decide) (by decide) (hnil 2)).trans ((did_add rfl (by simp) (look_nil key)).trans (first_write (by unfold costI; simp only; omega)))) ?_
  refine runC_one (s' := ⟨100000, [⟨key, a, 1, 0⟩], 1, 0⟩) ((doC_in (rr 3 b (by decide) (by decide) hb) (by decide) (by decide) (hone a 1 3)).trans (did_add_there (y := ⟨key, a, 1, 0⟩) rfl (by simp) (look_one ⟨key, a, 1, 0⟩))) ?_
  refine runC_one (s' := ⟨100000, [⟨key, b, 2, 0⟩], 2, 0⟩) ((doC_in (rr 4 b (by decide) (by decide) hb) (by decide) (by decide) (hone a 1 4)).trans ((did_replace (y := ⟨key, a, 1, 0⟩) rfl (by simp) (look_one ⟨key, a, 1, 0⟩)).trans (one_write rfl (by unfold costI; simp only; omega)))) ?_
  refine runC_one (s' := ⟨100000, [⟨key, b, 2, 0⟩], 2, 0⟩) ((doC_in (rr 1 _ (by decide) (by decide) hz) (by decide) (by decide) (hone b 2 5)).trans ((did_get (y := ⟨key, b, 2, 0⟩) rfl (look_one ⟨key, b, 2, 0⟩)).trans (by rw [putC_one rfl]))) ?_
  refine runC_one (s' := ⟨100000, [], 2, 0⟩) ((doC_in (rr 5 _ (by decide) (by decide) hz) (by decide) (by decide) (hone b 2 6)).trans ((did_del (y := ⟨key, b, 2, 0⟩) rfl (look_one ⟨key, b, 2, 0⟩)).trans ?_)) ?_
  · have : delL [(⟨key, b, 2, 0⟩ : It)] key = [] := by unfold delL; rw [List.filter_cons_of_neg (by simp)]; rfl
    simp only
    rw [this]
  · exact runC_one (n0 5 _ 7 2 (.inr rfl) hz (by decide) (by decide)) (runC_one (n0 1 _ 8 2 (.inl rfl) hz (by decide) (by decide)) rfl)

theorem doC_sw {s : CSt} {x : Cm} {now : Int} (hr : rightC x) (h0 : 0 ≤ now) (h1 : now ≤ 1000000000000) : doC s x now = didC { s with U := sweepC now s.U } x now := by
  unfold doC
  rw [if_neg (fun h => h.elim (fun h => h hr) (fun h => by omega))]
theorem one_stays {x : It} {now : Int} (h : x.til = 0 ∨ now ≤ x.til) : ∀ y ∈ [x], y.til = 0 ∨ now ≤ y.til := fun y hy => by rw [List.mem_singleton.1 hy]; exact h
theorem sweep_one_gone {x : It} {now : Int} (h0 : 0 < x.til) (h : x.til < now) : sweepC now [x] = [] := by
  unfold sweepC overB
  rw [List.filter_cons_of_neg (by rw [decide_eq_true h0, decide_eq_true h]; decide)]
  rfl

def kB : ByteArray := ⟨#[107]⟩
def vB : ByteArray := ⟨#[118]⟩
theorem kB_right {op num : Int} {v : ByteArray} (h0 : 1 ≤ op) (h1 : op ≤ 10) (hv : v.size ≤ 500) (hn0 : 0 ≤ num) (hn1 : num ≤ 1000) : rightC ⟨op, kB, v, num, 0⟩ :=
  right_of h0 h1 (show 1 ≤ (⟨#[107]⟩ : ByteArray).size by decide) (show (⟨#[107]⟩ : ByteArray).size ≤ 60 by decide) hv (by simp only; omega) (by simp only; omega) (by simp) (by simp)
theorem exp_set {n : Int} (h0 : 1 ≤ n) (h1 : n ≤ 50) : doC (newC 1000) ⟨2, kB, vB, n, 0⟩ 10 = (⟨0, ⟨#[]⟩, 0, 1, []⟩, ⟨1000, [⟨kB, vB, 1, 10 + n⟩], 1, 0⟩) := by
  rw [newC_at (by decide) (by decide), doC_in (kB_right (by decide) (by decide) (by decide) (by omega) (by omega)) (by decide) (by decide) (fun y hy => by cases hy), did_set rfl (by simp only; omega), first_write (show (16 + ((⟨#[107]⟩ : ByteArray).size : Int) + ((⟨#[118]⟩ : ByteArray).size : Int)) ≤ 1000 by decide)]
  simp only
  rw [show untilC n 10 = 10 + n from if_neg (by omega)]
  rfl
theorem exp_ttl {n : Int} (h0 : 1 ≤ n) (h1 : n ≤ 50) : doC ⟨1000, [⟨kB, vB, 1, 10 + n⟩], 1, 0⟩ ⟨10, kB, ⟨#[]⟩, 0, 0⟩ 10 = (⟨0, ⟨#[]⟩, n, 0, []⟩, ⟨1000, [⟨kB, vB, 1, 10 + n⟩], 1, 0⟩) := by
  rw [doC_in (kB_right (by decide) (by decide) (by decide) (by decide) (by decide)) (by decide) (by decide) (one_stays (.inr (by simp only; omega))), did_ttl (y := ⟨kB, vB, 1, 10 + n⟩) rfl (look_one ⟨kB, vB, 1, 10 + n⟩)]
  simp only
  rw [if_neg (by omega), show 10 + n - 10 = n by omega]
theorem exp_get {u now : Int} (h0 : 1 ≤ u) (hn : 0 ≤ now) (hn1 : now ≤ 1000) (hu : now ≤ u) : doC ⟨1000, [⟨kB, vB, 1, u⟩], 1, 0⟩ ⟨1, kB, ⟨#[]⟩, 0, 0⟩ now = (⟨0, vB, 0, 1, []⟩, ⟨1000, [⟨kB, vB, 1, u⟩], 1, 0⟩) := by
  rw [doC_in (kB_right (by decide) (by decide) (by decide) (by decide) (by decide)) hn (by omega) (one_stays (.inr hu)), did_get (y := ⟨kB, vB, 1, u⟩) rfl (look_one ⟨kB, vB, 1, u⟩), putC_one rfl]
theorem exp_over {u now : Int} (h0 : 1 ≤ u) (hn : 0 ≤ now) (hn1 : now ≤ 1000) (hu : u < now) : doC ⟨1000, [⟨kB, vB, 1, u⟩], 1, 0⟩ ⟨1, kB, ⟨#[]⟩, 0, 0⟩ now = (Rp.err 9, ⟨1000, [], 1, 0⟩) := by
  rw [doC_sw (kB_right (by decide) (by decide) (by decide) (by decide) (by decide)) hn (by omega)]
  simp only
  rw [sweep_one_gone (by simp only; omega) hu, did_none (.inl rfl) (fun _ => by simp) (look_nil _)]
theorem exp_touch {n more : Int} (h0 : 1 ≤ n) (h1 : n ≤ 50) (m0 : 1 ≤ more) (m1 : more ≤ 50) : doC ⟨1000, [⟨kB, vB, 1, 10 + n⟩], 1, 0⟩ ⟨9, kB, ⟨#[]⟩, more, 0⟩ (10 + n) = (Rp.err 0, ⟨1000, [⟨kB, vB, 1, 10 + n + more⟩], 1, 0⟩) := by
  rw [doC_in (kB_right (by decide) (by decide) (by decide) (by omega) (by omega)) (by omega) (by omega) (one_stays (.inr (by simp))), did_touch (y := ⟨kB, vB, 1, 10 + n⟩) rfl (by simp only; omega) (look_one ⟨kB, vB, 1, 10 + n⟩)]
  simp only
  rw [putC_one (y := ⟨kB, vB, 1, 10 + n⟩) (x := ⟨kB, vB, 1, untilC more (10 + n)⟩) rfl, show untilC more (10 + n) = 10 + n + more from if_neg (by omega)]

/-- The cache of CacheAppends. -/
def appS (a : ByteArray) (ver : Int) : CSt := ⟨10000, [⟨kB, a, ver, 8⟩], ver, 0⟩
theorem app_set {a : ByteArray} (ha : a.size ≤ 500) : doC (newC 10000) ⟨2, kB, a, 7, 0⟩ 1 = (⟨0, ⟨#[]⟩, 0, 1, []⟩, appS a 1) := by
  rw [newC_at (by decide) (by decide), doC_in (kB_right (by decide) (by decide) ha (by decide) (by decide)) (by decide) (by decide) (fun y hy => by cases hy), did_set rfl (by simp), first_write (by
    unfold costI kB
    simp only
    have : (⟨#[107]⟩ : ByteArray).size = 1 := rfl
    omega)]
  rfl
theorem app_stays (a : ByteArray) (ver : Int) : ∀ y ∈ (appS a ver).U, y.til = 0 ∨ (2 : Int) ≤ y.til := one_stays (.inr (show (2 : Int) ≤ 8 by decide))
theorem app_more {a b : ByteArray} {ver : Int} (hb : b.size ≤ 500) (h : a.size + b.size ≤ 500) : doC (appS a ver) ⟨8, kB, b, 0, 0⟩ 2 = (⟨0, ⟨#[]⟩, 0, ver + 1, []⟩, appS (a ++ b) (ver + 1)) := by
  rw [doC_in (kB_right (by decide) (by decide) hb (by decide) (by decide)) (by decide) (by decide) (app_stays a ver), did_app (y := ⟨kB, a, ver, 8⟩) rfl (look_one ⟨kB, a, ver, 8⟩)]
  unfold behindC
  rw [if_neg (by simp only; omega)]
  unfold appS
  simp only
  rw [one_write (y := ⟨kB, a, ver, 8⟩) (x := ⟨kB, a ++ b, ver, 8⟩) rfl (by
    unfold costI kB
    simp only
    rw [ByteArray.size_append]
    have : (⟨#[107]⟩ : ByteArray).size = 1 := rfl
    omega)]
theorem app_big {a b : ByteArray} {ver : Int} (hb : b.size ≤ 500) (h : 500 < a.size + b.size) : doC (appS a ver) ⟨8, kB, b, 0, 0⟩ 2 = (Rp.err 13, appS a ver) := by
  rw [doC_in (kB_right (by decide) (by decide) hb (by decide) (by decide)) (by decide) (by decide) (app_stays a ver), did_app (y := ⟨kB, a, ver, 8⟩) rfl (look_one ⟨kB, a, ver, 8⟩)]
  unfold behindC
  rw [if_pos (by simp only; omega)]
theorem app_get (a : ByteArray) (ver : Int) : doC (appS a ver) ⟨1, kB, ⟨#[]⟩, 0, 0⟩ 2 = (⟨0, a, 0, ver, []⟩, appS a ver) := by
  rw [doC_in (kB_right (by decide) (by decide) (by decide) (by decide) (by decide)) (by decide) (by decide) (app_stays a ver), did_get (y := ⟨kB, a, ver, 8⟩) rfl (look_one ⟨kB, a, ver, 8⟩)]
  unfold appS
  simp only
  rw [putC_one rfl]
theorem app_ttl (a : ByteArray) (ver : Int) : doC (appS a ver) ⟨10, kB, ⟨#[]⟩, 0, 0⟩ 2 = (⟨0, ⟨#[]⟩, 6, 0, []⟩, appS a ver) := by
  rw [doC_in (kB_right (by decide) (by decide) (by decide) (by decide) (by decide)) (by decide) (by decide) (app_stays a ver), did_ttl (y := ⟨kB, a, ver, 8⟩) rfl (look_one ⟨kB, a, ver, 8⟩)]
  rfl

/-- The i-th key: 'k' and a byte; so many zero bytes. -/
def kkB (i : Nat) : ByteArray := ⟨#[107, UInt8.ofNat i]⟩
def zB (n : Nat) : ByteArray := ⟨(List.replicate n (0 : UInt8)).toArray⟩
theorem kkB_size (i : Nat) : (kkB i).size = 2 := rfl
theorem zB_size (n : Nat) : (zB n).size = n := by show (List.replicate n (0 : UInt8)).length = n; simp
theorem kkB_inj {i j : Nat} (hi : i < 256) (hj : j < 256) (h : kkB i = kkB j) : i = j := by
  have h1 := congrArg (fun b : ByteArray => b.data.toList) h
  simp only [kkB, List.cons.injEq] at h1
  have h2 := congrArg UInt8.toNat h1.2.1
  rw [UInt8.toNat_ofNat', UInt8.toNat_ofNat'] at h2
  omega
/-- Items of such keys, one after the other. -/
def rowU (f : Nat → It) (n : Nat) : List It := (List.range n).map f
theorem rowU_succ (f : Nat → It) (n : Nat) : rowU f (n + 1) = rowU f n ++ [f n] := by unfold rowU; rw [List.range_succ, List.map_append]; rfl
theorem rowU_length (f : Nat → It) (n : Nat) : (rowU f n).length = n := by unfold rowU; simp
theorem rowU_keys {f : Nat → It} (hf : ∀ i, (f i).key = kkB i) (n : Nat) : keys (rowU f n) = (List.range n).map kkB := by
  unfold rowU keys
  rw [List.map_map]
  apply List.map_congr_left
  intro i _
  exact hf i
theorem rowU_none {f : Nat → It} (hf : ∀ i, (f i).key = kkB i) {n i : Nat} (hn : n ≤ i) (hi : i < 256) : look (rowU f n) (kkB i) = none := by
  unfold look rowU
  rw [List.find?_eq_none]
  intro x hx
  obtain ⟨j, hj, rfl⟩ := List.mem_map.1 hx
  have := List.mem_range.1 hj
  simp only [hf, decide_eq_true_eq]
  intro h
  have := kkB_inj (by omega) hi h
  omega
theorem rowU_nodup {f : Nat → It} (hf : ∀ i, (f i).key = kkB i) {n : Nat} (hn : n ≤ 256) : (keys (rowU f n)).Nodup := by
  rw [rowU_keys hf, List.Nodup, List.pairwise_map]
  refine List.Pairwise.imp_of_mem ?_ (List.pairwise_lt_range (n := n))
  intro a b ha hb hab h
  have h1 := List.mem_range.1 ha
  have h2 := List.mem_range.1 hb
  have := kkB_inj (by omega) (by omega) h
  omega
theorem rowU_some {f : Nat → It} (hf : ∀ i, (f i).key = kkB i) {n i : Nat} (hn : n ≤ 256) (hi : i < n) : look (rowU f n) (kkB i) = some (f i) :=
  (look_mem (rowU_nodup hf hn)).2 ⟨List.mem_map.2 ⟨i, List.mem_range.2 hi, rfl⟩, hf i⟩
theorem rowU_used {f : Nat → It} {e : Int} (hf : ∀ i, costI (f i) = e) : ∀ n, usedL (rowU f n) = n * e
  | 0 => by simp [rowU, usedL_nil]
  | n + 1 => by
    rw [rowU_succ, usedL_snoc, rowU_used hf n, hf]
    rw [show ((n + 1 : Nat) : Int) = (n : Int) + 1 by omega, Int.add_mul]
    omega
theorem look_key {U : List It} {k : ByteArray} {y : It} (h : look U k = some y) : y.key = k := by
  unfold look at h
  simpa using List.find?_some h

/-- put's items. -/
def putIt (size i : Nat) : It := ⟨kkB i, zB size, (i : Int) + 1, 0⟩
theorem putIt_cost (size i : Nat) : costI (putIt size i) = 18 + size := by
  unfold costI putIt
  simp only
  rw [kkB_size, zB_size]
  omega
theorem row_set {f : Nat → It} (hf : ∀ i, (f i).key = kkB i) {budget : Int} {n : Nat} {v : ByteArray} {num now : Int} (hn : n < 256) (hv : v.size ≤ 500) (h0 : 0 ≤ num) (h1 : num ≤ 1000) (t0 : 0 ≤ now) (t1 : now ≤ 1000) (hst : ∀ y ∈ rowU f n, y.til = 0 ∨ now ≤ y.til)
    (hfn : f n = ⟨kkB n, v, (n : Int) + 1, untilC num now⟩) (hroom : usedL (rowU f (n + 1)) ≤ budget) :
    doC ⟨budget, rowU f n, n, 0⟩ ⟨2, kkB n, v, num, 0⟩ now = (⟨0, ⟨#[]⟩, 0, (n : Int) + 1, []⟩, ⟨budget, rowU f (n + 1), (n + 1 : Nat), 0⟩) := by
  have hp : putC (rowU f n) ⟨kkB n, v, (n : Int) + 1, untilC num now⟩ = rowU f (n + 1) := by
    rw [putC_fresh (rowU_none hf (Nat.le_refl n) hn), rowU_succ, hfn]
  rw [doC_in (right_of (by simp) (by simp) (by simp only; rw [kkB_size]; omega) (by simp only; rw [kkB_size]; omega) hv (by simp only; omega) (by simp only; omega) (by simp) (by simp)) t0 (by omega) hst, did_set rfl (by simp only; omega), write_room (by simp only; rw [hp]; exact hroom)]
  simp only
  rw [hp]
  rfl
theorem put_step {budget : Int} {size n : Nat} (hn : n < 20) (hs : size ≤ 100) (hroom : ((n + 1 : Nat) : Int) * (18 + size) ≤ budget) :
    doC ⟨budget, rowU (putIt size) n, n, 0⟩ ⟨2, kkB n, zB size, 0, 0⟩ 1 = (⟨0, ⟨#[]⟩, 0, (n : Int) + 1, []⟩, ⟨budget, rowU (putIt size) (n + 1), (n + 1 : Nat), 0⟩) :=
  row_set (fun _ => rfl) (by omega) (by rw [zB_size]; omega) (by decide) (by decide) (by decide) (by decide) (fun y hy => by
    obtain ⟨j, _, rfl⟩ := List.mem_map.1 hy
    exact .inl rfl) rfl (by rw [rowU_used (putIt_cost size)]; exact hroom)
theorem row_zero (f : Nat → It) : rowU f 0 = [] := rfl

/-! CacheUses -/
def movesB (op : Int) : Bool := decide (op = 1) || decide (op = 9) || decide (op = 8) || decide (op = 4)
def wantL (n at_ : Nat) (mv : Bool) : List ByteArray := (((List.range n).filter fun k => decide (k ≠ at_) || !mv).map kkB) ++ if mv then [kkB at_] else []
theorem keys_put {U : List It} (y : It) : keys (putC U y) = (keys U).filter (fun k => decide (k ≠ y.key)) ++ [y.key] := by
  unfold putC
  have e : keys (delL U y.key ++ [y]) = keys (delL U y.key) ++ [y.key] := by unfold keys; rw [List.map_append]; rfl
  rw [e, keys_del]
theorem uses_keys {n at_ : Nat} (hn : n ≤ 20) (ha : at_ < n) (y : It) (hy : y.key = kkB at_) : keys (putC (rowU (putIt 2) n) y) = wantL n at_ true := by
  rw [keys_put, rowU_keys (fun _ => rfl), hy]
  unfold wantL
  rw [if_pos rfl, List.filter_map]
  congr 2
  apply List.filter_congr
  intro k hk
  have := List.mem_range.1 hk
  simp only [Function.comp, Bool.not_true, Bool.or_false]
  rw [decide_eq_decide]
  exact ⟨fun h e => h (by rw [e]), fun h e => h (kkB_inj (by omega) (by omega) e)⟩
theorem wantL_all (n at_ : Nat) : wantL n at_ false = keys (rowU (putIt 2) n) := by
  rw [rowU_keys (fun _ => rfl)]
  unfold wantL
  rw [List.filter_eq_self.2 (fun k _ => by simp)]
  simp
theorem uses_do {n at_ : Nat} {op : Int} (hn : n ≤ 20) (ha : at_ < n) (hop : op = 1 ∨ op = 9 ∨ op = 8 ∨ op = 10 ∨ op = 11 ∨ op = 4 ∨ op = 3) :
    ∃ r s', doC ⟨100000, rowU (putIt 2) n, n, 0⟩ ⟨op, kkB at_, ⟨#[]⟩, if op = 11 then 1 else 0, 0⟩ 1 = (r, s') ∧ keys s'.U = wantL n at_ (movesB op) := by
  have hst : ∀ y ∈ (⟨100000, rowU (putIt 2) n, n, 0⟩ : CSt).U, y.til = 0 ∨ (1 : Int) ≤ y.til := fun y hy => by
    obtain ⟨j, _, rfl⟩ := List.mem_map.1 hy
    exact .inl rfl
  have hl : look (rowU (putIt 2) n) (kkB at_) = some (putIt 2 at_) := rowU_some (fun _ => rfl) (by omega) ha
  have hz : (⟨#[]⟩ : ByteArray).size ≤ 500 := by decide
  have hr : ∀ o : Int, 1 ≤ o → o ≤ 10 → rightC ⟨o, kkB at_, ⟨#[]⟩, 0, 0⟩ := fun o h0 h1 => right_of h0 h1 (by simp only; rw [kkB_size]; omega) (by simp only; rw [kkB_size]; omega) hz (by simp) (by simp) (by simp) (by simp)
  have hroom : ∀ v t : Int, usedL (putC (rowU (putIt 2) n) ⟨kkB at_, zB 2, v, t⟩) ≤ 100000 := fun v t => by
    have h1 := usedL_put_le (rowU (putIt 2) n) ⟨kkB at_, zB 2, v, t⟩
    have h2 := rowU_used (putIt_cost 2) n
    have h3 : costI ⟨kkB at_, zB 2, v, t⟩ = 20 := rfl
    omega
  have hroom0 : ∀ v t : Int, usedL (putC (rowU (putIt 2) n) ⟨kkB at_, ⟨#[]⟩, v, t⟩) ≤ 100000 := fun v t => by
    have h1 := usedL_put_le (rowU (putIt 2) n) ⟨kkB at_, ⟨#[]⟩, v, t⟩
    have h2 := rowU_used (putIt_cost 2) n
    have h3 : costI ⟨kkB at_, ⟨#[]⟩, v, t⟩ = 18 := rfl
    omega
  rcases hop with rfl | rfl | rfl | rfl | rfl | rfl | rfl
  · refine ⟨_, _, (doC_in (hr 1 (by decide) (by decide)) (by decide) (by decide) hst).trans (did_get rfl hl), ?_⟩
    exact uses_keys hn ha _ rfl
  · refine ⟨_, _, (doC_in (hr 9 (by decide) (by decide)) (by decide) (by decide) hst).trans (did_touch rfl (by simp) hl), ?_⟩
    exact uses_keys hn ha _ rfl
  · have e : doC ⟨100000, rowU (putIt 2) n, n, 0⟩ ⟨8, kkB at_, ⟨#[]⟩, 0, 0⟩ 1 = writeC ⟨100000, rowU (putIt 2) n, n, 0⟩ ⟨kkB at_, zB 2 ++ ⟨#[]⟩, (at_ : Int) + 1, 0⟩ := by
      rw [doC_in (hr 8 (by decide) (by decide)) (by decide) (by decide) hst, did_app rfl hl]
      unfold behindC
      rw [if_neg (by simp only [putIt]; rw [zB_size]; decide)]
      rfl
    have ez : zB 2 ++ (⟨#[]⟩ : ByteArray) = zB 2 := rfl
    rw [ez] at e
    rw [write_room (by simp only; exact hroom _ _)] at e
    exact ⟨_, _, e, uses_keys hn ha _ rfl⟩
  · refine ⟨_, _, (doC_in (hr 10 (by decide) (by decide)) (by decide) (by decide) hst).trans (did_ttl rfl hl), ?_⟩
    exact (wantL_all n at_).symm
  · refine ⟨_, _, (doC_in ⟨show (1 : Int) ≤ 11 by decide, show (11 : Int) ≤ 13 by decide, ?_, hz, show (-1000000000000 : Int) ≤ 1 by decide, show (1 : Int) ≤ 1000000000000 by decide, by simp, by simp⟩ (by decide) (by decide) hst).trans ((did_scan rfl).trans (if_neg (show ¬ ((1 : Int) < 1 ∨ (40 : Int) < 1) by decide))), ?_⟩
    · show (kkB at_).size ≤ 60
      rw [kkB_size]
      omega
    · exact (wantL_all n at_).symm
  · refine ⟨_, _, (doC_in (hr 4 (by decide) (by decide)) (by decide) (by decide) hst).trans ((did_replace rfl (by simp) hl).trans (write_room (by simp only; exact hroom0 _ _))), ?_⟩
    exact uses_keys hn ha _ rfl
  · refine ⟨_, _, (doC_in (hr 3 (by decide) (by decide)) (by decide) (by decide) hst).trans (did_add_there rfl (by simp) hl), ?_⟩
    exact (wantL_all n at_).symm

/-! CacheEvicts -/
theorem evict_drop {bud : Int} : ∀ (j : Nat) (L : List It), (∀ i, i < j → ¬ usedL (L.drop i) ≤ bud) → usedL (L.drop j) ≤ bud → evict bud L = L.drop j
  | 0, L, _, h => evict_room h
  | j + 1, [], h, h2 => by
    have := h 0 (by omega)
    simp only [List.drop_nil] at this h2
    exact absurd h2 this
  | j + 1, x :: L, h, h2 => by
    rw [evict_step (h 0 (by omega)), List.drop_succ_cons]
    exact evict_drop j L (fun i hi => h (i + 1) (by omega)) h2
def newB : ByteArray := ⟨#[110, 101, 119]⟩
theorem row_drop_used {f : Nat → It} {e : Int} (hf : ∀ i, costI (f i) = e) (n j : Nat) (hj : j ≤ n) : usedL ((rowU f n).drop j) = ((n - j : Nat) : Int) * e := by
  have h1 : (rowU f n).take j = rowU f j := by
    unfold rowU
    rw [← List.map_take, List.take_range, Nat.min_eq_left hj]
  have h2 := usedL_append ((rowU f n).take j) ((rowU f n).drop j)
  rw [List.take_append_drop, h1, rowU_used hf, rowU_used hf] at h2
  have h3 : (((n - j : Nat) : Int)) * e = (n : Int) * e - (j : Int) * e := by rw [Int.ofNat_sub hj, Int.sub_mul]
  omega
theorem new_none {n : Nat} (size : Nat) : look (rowU (putIt size) n) newB = none := by
  unfold look rowU
  rw [List.find?_eq_none]
  intro x hx
  obtain ⟨j, hj, rfl⟩ := List.mem_map.1 hx
  simp only [decide_eq_true_eq]
  intro h
  have := congrArg ByteArray.size h
  exact absurd this (by show ¬ ((2 : Nat) = 3); decide)
theorem new_right {more : Nat} (hm : more ≤ 300) : rightC ⟨2, newB, zB more, 0, 0⟩ :=
  right_of (by simp) (by simp) (show 1 ≤ (⟨#[110, 101, 119]⟩ : ByteArray).size by decide) (show (⟨#[110, 101, 119]⟩ : ByteArray).size ≤ 60 by decide) (by simp only; rw [zB_size]; omega) (by simp) (by simp) (by simp) (by simp)
theorem row_stays (size n : Nat) (now : Int) : ∀ y ∈ rowU (putIt size) n, y.til = 0 ∨ now ≤ y.til := fun y hy => by
  obtain ⟨j, _, rfl⟩ := List.mem_map.1 hy
  exact .inl rfl
theorem new_cost (more : Nat) (v t : Int) : costI ⟨newB, zB more, v, t⟩ = 19 + more := by
  unfold costI
  simp only
  rw [zB_size]
  have : newB.size = 3 := rfl
  omega
theorem evicts_large {n size more : Nat} (hm : more ≤ 300) (h : ((n : Int) * (18 + size)) < 19 + more) :
    doC ⟨n * (18 + size), rowU (putIt size) n, n, 0⟩ ⟨2, newB, zB more, 0, 0⟩ 1 = (Rp.err 13, ⟨n * (18 + size), rowU (putIt size) n, n, 0⟩) := by
  rw [doC_in (new_right hm) (by decide) (by decide) (row_stays size n 1), did_set rfl (by simp), write_big (by rw [new_cost]; exact h)]
theorem evicts_fits {n size more gone : Nat} (hm : more ≤ 300) (h : (19 + more : Int) ≤ (n : Int) * (18 + size)) (hg1 : gone ≤ n) (hg2 : (19 + more : Int) ≤ (gone : Int) * (18 + size)) (hg3 : ((gone : Int) - 1) * (18 + size) < 19 + more) :
    ∃ r s', doC ⟨n * (18 + size), rowU (putIt size) n, n, 0⟩ ⟨2, newB, zB more, 0, 0⟩ 1 = (r, s') ∧ r.errno = 0 ∧ s'.gone = gone ∧ keys s'.U = ((List.range n).drop gone).map kkB ++ [newB] ∧ usedL s'.U = ((n - gone : Nat) : Int) * (18 + size) + (19 + more) := by
  have hE : evict (n * (18 + size)) (rowU (putIt size) n ++ [⟨newB, zB more, (n : Int) + 1, 0⟩]) = (rowU (putIt size) n).drop gone ++ [⟨newB, zB more, (n : Int) + 1, 0⟩] := by
    have hd : ∀ i, i ≤ n → usedL ((rowU (putIt size) n ++ [(⟨newB, zB more, (n : Int) + 1, 0⟩ : It)]).drop i) = ((n - i : Nat) : Int) * (18 + size) + (19 + more) := fun i hi => by
      rw [List.drop_append_of_le_length (by rw [rowU_length]; exact hi), usedL_snoc, row_drop_used (putIt_cost size) n i hi, new_cost]
    rw [evict_drop gone]
    · rw [List.drop_append_of_le_length (by rw [rowU_length]; exact hg1)]
    · intro i hi
      rw [hd i (by omega)]
      have h1 : (((n - i : Nat) : Int)) * (18 + (size : Int)) = (n : Int) * (18 + size) - (i : Int) * (18 + size) := by rw [Int.ofNat_sub (by omega), Int.sub_mul]
      have h2 : (i : Int) * (18 + size) ≤ ((gone : Int) - 1) * (18 + size) := Int.mul_le_mul_of_nonneg_right (by omega) (by omega)
      omega
    · rw [hd gone hg1]
      have h1 : (((n - gone : Nat) : Int)) * (18 + (size : Int)) = (n : Int) * (18 + size) - (gone : Int) * (18 + size) := by rw [Int.ofNat_sub hg1, Int.sub_mul]
      omega
  have hw : doC ⟨n * (18 + size), rowU (putIt size) n, n, 0⟩ ⟨2, newB, zB more, 0, 0⟩ 1 = writeC ⟨n * (18 + size), rowU (putIt size) n, n, 0⟩ ⟨newB, zB more, 0, 0⟩ := by
    rw [doC_in (new_right hm) (by decide) (by decide) (row_stays size n 1), did_set rfl (by simp)]
    rfl
  have hp : putC (rowU (putIt size) n) ⟨newB, zB more, (n : Int) + 1, 0⟩ = rowU (putIt size) n ++ [⟨newB, zB more, (n : Int) + 1, 0⟩] := putC_fresh (new_none size)
  refine ⟨_, _, hw.trans (if_neg (by rw [new_cost]; simp only; omega)), rfl, ?_, ?_, ?_⟩
  · simp only
    rw [hp, hE, List.length_append, List.length_append, List.length_drop, rowU_length]
    simp only [List.length_singleton]
    omega
  · simp only
    rw [hp, hE]
    unfold keys
    rw [List.map_append, List.map_drop]
    have := rowU_keys (f := putIt size) (fun _ => rfl) n
    unfold keys at this
    rw [this, List.map_drop]
    rfl
  · simp only
    rw [hp, hE, usedL_snoc, row_drop_used (putIt_cost size) n gone hg1, new_cost]

/-! CacheErrs -/
theorem rp_err_ne {e : Int} : (Rp.err e).errno = e := rfl
theorem write_err {s : CSt} {x : It} (h : (writeC s x).1.errno ≠ 0) : ∃ e, writeC s x = (Rp.err e, s) := by
  unfold writeC at h ⊢
  split
  · exact ⟨_, rfl⟩
  · rename_i hc
    rw [if_neg hc] at h
    exact absurd rfl h
theorem did_err {s : CSt} {x : Cm} {now : Int} (h : (didC s x now).1.errno ≠ 0) : ∃ e, didC s x now = (Rp.err e, s) := by
  unfold didC at h ⊢
  split
  · rename_i h1
    rw [if_pos h1] at h
    unfold setC at h ⊢
    split
    · exact ⟨_, rfl⟩
    · rename_i h2
      rw [if_neg h2] at h
      split
      · exact ⟨_, rfl⟩
      · rename_i h3
        rw [if_neg h3] at h
        split
        · exact ⟨_, rfl⟩
        · rename_i h4
          rw [if_neg h4] at h
          split
          · exact ⟨_, rfl⟩
          · rename_i h5
            rw [if_neg h5] at h
            exact write_err h
  · rename_i h1
    rw [if_neg h1] at h
    split
    · rename_i h2
      rw [if_pos h2] at h
      unfold scanC at h ⊢
      split
      · exact ⟨_, rfl⟩
      · rename_i h3
        rw [if_neg h3] at h
        exact absurd rfl h
    · rename_i h2
      rw [if_neg h2] at h
      split
      · rename_i h3
        rw [if_pos h3] at h
        exact absurd rfl h
      · rename_i h3
        rw [if_neg h3] at h
        split
        · rename_i h4
          rw [if_pos h4] at h
          exact absurd rfl h
        · rename_i h4
          rw [if_neg h4] at h
          unfold itemC at h ⊢
          split
          · exact ⟨_, rfl⟩
          · rename_i h5
            rw [if_neg h5] at h
            cases hl : look s.U x.key with
            | none => exact ⟨_, rfl⟩
            | some was =>
              rw [hl] at h
              simp only at h ⊢
              split
              · rename_i h6; rw [if_pos h6] at h; exact absurd rfl h
              · rename_i h6
                rw [if_neg h6] at h
                split
                · rename_i h7
                  rw [if_pos h7] at h
                  split at h
                  · exact absurd rfl h
                  · exact absurd rfl h
                · rename_i h7
                  rw [if_neg h7] at h
                  split
                  · rename_i h8; rw [if_pos h8] at h; exact absurd rfl h
                  · rename_i h8
                    rw [if_neg h8] at h
                    split
                    · rename_i h9; rw [if_pos h9] at h; exact absurd rfl h
                    · rename_i h9
                      rw [if_neg h9] at h
                      split
                      · rename_i h10
                        rw [if_pos h10] at h
                        unfold incrC at h ⊢
                        split
                        · rename_i v hv
                          rw [hv] at h
                          simp only at h
                          split
                          · exact ⟨_, rfl⟩
                          · rename_i h11
                            rw [if_neg h11] at h
                            simp only at h ⊢
                            by_cases h12 : (writeC s ⟨was.key, itoaB (v + x.num), was.ver, was.til⟩).1.errno = 0
                            · rw [if_pos h12] at h; exact absurd rfl h
                            · rw [if_neg h12]
                              obtain ⟨e, he⟩ := write_err h12
                              rw [he]
                              exact ⟨e, rfl⟩
                        · exact ⟨_, rfl⟩
                      · rename_i h10
                        rw [if_neg h10] at h
                        unfold behindC at h ⊢
                        split
                        · exact ⟨_, rfl⟩
                        · rename_i h11
                          rw [if_neg h11] at h
                          exact write_err h
theorem doC_err {s : CSt} {x : Cm} {now : Int} (hs : ∀ y ∈ s.U, y.til = 0) (h : (doC s x now).1.errno ≠ 0) : ∃ e, doC s x now = (Rp.err e, s) := by
  by_cases hc : ¬ rightC x ∨ now < 0 ∨ 1000000000000 < now
  · exact ⟨_, doC_out hc⟩
  · have h1 : rightC x := Classical.byContradiction fun hn => hc (.inl hn)
    have e := doC_in h1 (Int.not_lt.1 fun hn => hc (.inr (.inl hn))) (Int.not_lt.1 fun hn => hc (.inr (.inr hn))) (fun y hy => .inl (hs y hy))
    rw [e] at h ⊢
    exact did_err h
def wxyzB : ByteArray := ⟨#[119, 120, 121, 122]⟩
theorem errs_after : ∃ s', doC ⟨300, rowU (putIt 4) 6, 6, 0⟩ ⟨2, kkB 5, wxyzB, 0, 0⟩ 1 = (⟨0, ⟨#[]⟩, 0, 7, []⟩, s') ∧ usedL s'.U = 132 ∧ s'.U.length = 6 := by
  have hl : look (rowU (putIt 4) 6) (kkB 5) = some (putIt 4 5) := rowU_some (fun _ => rfl) (by omega) (by omega)
  have hu : usedL (putC (rowU (putIt 4) 6) ⟨kkB 5, wxyzB, 6 + 1, 0⟩) = 132 := by
    rw [usedL_put_some (rowU_nodup (fun _ => rfl) (by omega)) hl, rowU_used (putIt_cost 4), putIt_cost]
    decide
  refine ⟨_, (doC_in (right_of (by simp) (by simp) (by simp only; rw [kkB_size]; omega) (by simp only; rw [kkB_size]; omega) (show (⟨#[119, 120, 121, 122]⟩ : ByteArray).size ≤ 500 by decide) (by simp) (by simp) (by simp) (by simp)) (by decide) (by decide) (row_stays 4 6 1)).trans ((did_set rfl (by simp)).trans (write_room ?_)), ?_, ?_⟩
  · show usedL (putC (rowU (putIt 4) 6) ⟨kkB 5, wxyzB, 6 + 1, 0⟩) ≤ 300
    rw [hu]
    decide
  · exact hu
  · show (putC (rowU (putIt 4) 6) ⟨kkB 5, wxyzB, 6 + 1, 0⟩).length = 6
    rw [putC_len_some (rowU_nodup (fun _ => rfl) (by omega)) hl, rowU_length]

/-! CacheSweeps -/
def swIt (l : List Int) (i : Nat) : It := ⟨kkB i, vB, (i : Int) + 1, l.getD i 0⟩
theorem sw_step {l : List Int} {n : Nat} (hn : n < 30) (h0 : 0 ≤ l.getD n 0) (h1 : l.getD n 0 ≤ 100) (hall : ∀ i, i < n → 0 ≤ l.getD i 0) :
    doC ⟨100000, rowU (swIt l) n, n, 0⟩ ⟨2, kkB n, vB, l.getD n 0, 0⟩ 0 = (⟨0, ⟨#[]⟩, 0, (n : Int) + 1, []⟩, ⟨100000, rowU (swIt l) (n + 1), (n + 1 : Nat), 0⟩) :=
  row_set (fun _ => rfl) (by omega) (show (⟨#[118]⟩ : ByteArray).size ≤ 500 by decide) h0 (by omega) (by decide) (by decide) (fun y hy => by
    obtain ⟨j, hj, rfl⟩ := List.mem_map.1 hy
    exact .inr (hall j (List.mem_range.1 hj))) (by
    unfold swIt untilC
    by_cases hz : l.getD n 0 = 0
    · rw [if_pos hz, hz]
    · rw [if_neg hz, Int.zero_add]) (by
    rw [rowU_used (e := 19) (fun i => rfl)]
    omega)
def stayN (l : List Int) (now : Int) (n : Nat) : Nat := ((List.range n).filter fun i => decide (l.getD i 0 = 0) || decide (now ≤ l.getD i 0)).length
theorem stayN_succ (l : List Int) (now : Int) (n : Nat) : stayN l now (n + 1) = stayN l now n + if l.getD n 0 = 0 ∨ now ≤ l.getD n 0 then 1 else 0 := by
  unfold stayN
  rw [List.range_succ, List.filter_append, List.length_append]
  congr 1
  by_cases h : l.getD n 0 = 0 ∨ now ≤ l.getD n 0
  · rw [if_pos h, List.filter_cons_of_pos (by simpa using h)]
    rfl
  · rw [if_neg h, List.filter_cons_of_neg (by simpa using h)]
    rfl
theorem stayN_le (l : List Int) (now : Int) (n : Nat) : stayN l now n ≤ n := by
  have := List.length_filter_le (fun i => decide (l.getD i 0 = 0) || decide (now ≤ l.getD i 0)) (List.range n)
  rw [List.length_range] at this
  exact this
theorem sw_len {l : List Int} {now : Int} {n : Nat} (hall : ∀ i, i < n → 0 ≤ l.getD i 0) : (sweepC now (rowU (swIt l) n)).length = stayN l now n := by
  unfold sweepC rowU stayN
  rw [List.filter_map, List.length_map]
  congr 1
  apply List.filter_congr
  intro i hi
  have h : ∀ t : Int, 0 ≤ t → (!(decide (0 < t) && decide (t < now))) = (decide (t = 0) || decide (now ≤ t)) := by
    intro t ht
    rw [Bool.eq_iff_iff]
    simp
    omega
  exact h _ (hall i (List.mem_range.1 hi))
theorem same_cost {e : Int} : ∀ {U : List It}, (∀ y ∈ U, costI y = e) → usedL U = U.length * e
  | [], _ => by simp [usedL_nil]
  | x :: U, h => by
    rw [usedL_cons, same_cost (U := U) (fun y hy => h y (.tail _ hy)), h x (.head _), List.length_cons]
    rw [show ((U.length + 1 : Nat) : Int) = (U.length : Int) + 1 by omega, Int.add_mul]
    omega
theorem sw_used {l : List Int} {now : Int} {n : Nat} (hall : ∀ i, i < n → 0 ≤ l.getD i 0) : usedL (sweepC now (rowU (swIt l) n)) = 19 * (stayN l now n : Int) := by
  rw [same_cost (e := 19) (fun y hy => by
    obtain ⟨j, _, rfl⟩ := List.mem_map.1 (List.mem_filter.1 hy).1
    rfl), sw_len hall]
  omega
def noneB : ByteArray := ⟨#[110, 111, 110, 101]⟩
theorem none_none {U : List It} (h : ∀ y ∈ U, y.key.size = 2) : look U noneB = none := by
  unfold look
  rw [List.find?_eq_none]
  intro x hx
  simp only [decide_eq_true_eq]
  intro e
  have := congrArg ByteArray.size e
  rw [h x hx] at this
  exact absurd this (by show ¬ ((2 : Nat) = 4); decide)
theorem sw_do {l : List Int} {now op : Int} {n : Nat} (h0 : 0 ≤ now) (h1 : now ≤ 200) (hop : op = 1 ∨ op = 13 ∨ op = 11 ∨ op = 10) :
    ∃ r, doC ⟨100000, rowU (swIt l) n, n, 0⟩ ⟨op, if op = 13 then ⟨#[]⟩ else noneB, ⟨#[]⟩, 1, 0⟩ now = (r, ⟨100000, sweepC now (rowU (swIt l) n), n, 0⟩) := by
  have hz : (⟨#[]⟩ : ByteArray).size ≤ 500 := by decide
  have hno : look (sweepC now (rowU (swIt l) n)) noneB = none := none_none fun y hy => by
    obtain ⟨j, _, rfl⟩ := List.mem_map.1 (List.mem_filter.1 hy).1
    rfl
  rcases hop with rfl | rfl | rfl | rfl
  · exact ⟨_, (doC_sw ⟨by decide, by decide, by decide, hz, by decide, by decide, by simp, by simp⟩ h0 (by omega)).trans (did_none (.inl rfl) (fun _ => by simp) hno)⟩
  · exact ⟨_, (doC_sw ⟨by decide, by decide, by decide, hz, by decide, by decide, by simp, by simp⟩ h0 (by omega)).trans (did_stats rfl)⟩
  · exact ⟨_, (doC_sw ⟨by decide, by decide, by decide, hz, by decide, by decide, by simp, by simp⟩ h0 (by omega)).trans ((did_scan rfl).trans (if_neg (by decide)))⟩
  · exact ⟨_, (doC_sw ⟨by decide, by decide, by decide, hz, by decide, by decide, by simp, by simp⟩ h0 (by omega)).trans (did_none (by simp) (fun _ => by simp) hno)⟩

theorem parse_append : ∀ (l m : List UInt8) (acc u : Nat), Lib.parseUint10 acc l = .ok u → Lib.parseUint10 acc (l ++ m) = Lib.parseUint10 u m
  | [], m, acc, u, h => by
    simp only [Lib.parseUint10] at h
    injection h with h
    rw [h]; rfl
  | c :: r, m, acc, u, h => by
    rw [List.cons_append]
    simp only [Lib.parseUint10] at h ⊢
    split at h
    · rename_i h1
      rw [if_pos h1]
      split at h
      · cases h
      · rename_i h2
        rw [if_neg h2]
        split at h
        · cases h
        · rename_i h3
          rw [if_neg h3]
          exact parse_append r m _ u h
    · cases h
theorem u8_small {n : Nat} (h : n < 256) : (UInt8.ofNat n).toNat = n := by rw [UInt8.toNat_ofNat']; omega
theorem dec_small {u : Nat} (h : u < 10) : Lib.decDigits u = [UInt8.ofNat (48 + u)] := Lib.decDigits_one h
theorem dec_big {u : Nat} (h : ¬ u < 10) : Lib.decDigits u = Lib.decDigits (u / 10) ++ [UInt8.ofNat (48 + u % 10)] := by rw [Lib.decDigits, dif_neg h]
theorem parse_dec (u : Nat) (hu : u < 1000000000000000000) : Lib.parseUint10 0 (Lib.decDigits u) = .ok u := by
  induction u using Nat.strongRecOn with
  | _ u ih =>
    by_cases h : u < 10
    · rw [dec_small h]
      simp only [Lib.parseUint10]
      rw [u8_small (by omega), if_pos (by omega), if_neg (by omega), if_neg (by omega)]
      congr 1
      omega
    · rw [dec_big h, parse_append _ _ _ _ (ih (u / 10) (by omega) (by omega))]
      simp only [Lib.parseUint10]
      rw [u8_small (by omega), if_pos (by omega), if_neg (by omega), if_neg (by omega)]
      congr 1
      omega
theorem dec_digit (u : Nat) : ∀ c ∈ Lib.decDigits u, 48 ≤ c.toNat ∧ c.toNat ≤ 57 := by
  induction u using Nat.strongRecOn with
  | _ u ih =>
    intro c hc
    by_cases h : u < 10
    · rw [dec_small h] at hc
      rw [List.mem_singleton.1 hc, u8_small (by omega)]
      omega
    · rw [dec_big h] at hc
      rcases List.mem_append.1 hc with hc | hc
      · exact ih (u / 10) (by omega) c hc
      · rw [List.mem_singleton.1 hc, u8_small (by omega)]
        omega
theorem dec_ne (u : Nat) : Lib.decDigits u ≠ [] := by
  intro h
  have h1 := Lib.decDigits_length u
  have h2 := Lib.nDigits_pos u
  rw [h] at h1
  simp only [List.length_nil] at h1
  omega
theorem dec_head (u : Nat) : ∀ r, Lib.decDigits u = 48 :: r → r = [] := by
  induction u using Nat.strongRecOn with
  | _ u ih =>
    intro r hr
    by_cases h : u < 10
    · rw [dec_small h] at hr
      injection hr with h1 h2
      exact h2.symm
    · rw [dec_big h] at hr
      cases hd : Lib.decDigits (u / 10) with
      | nil => exact absurd hd (dec_ne _)
      | cons c t =>
        rw [hd] at hr
        injection hr with h1 h2
        subst h1
        have ht := ih (u / 10) (by omega) t hd
        subst ht
        have h3 := parse_dec_any (u / 10) hd
        exact absurd h3 (by omega)
where
  parse_dec_any (w : Nat) (hd : Lib.decDigits w = [48]) : w = 0 := by
    by_cases h : w < 10
    · rw [dec_small h] at hd
      injection hd with h1 _
      have := congrArg UInt8.toNat h1
      rw [u8_small (by omega)] at this
      simp at this
      omega
    · have h1 := Lib.decDigits_length w
      rw [hd, Lib.nDigits_big h] at h1
      have := Lib.nDigits_pos (w / 10)
      simp only [List.length_cons, List.length_nil] at h1
      omega
theorem itoa_pos {v : Int} (h : ¬ v < 0) : Lib.itoa v = Lib.decDigits v.toNat := by unfold Lib.itoa; rw [if_neg h]
theorem itoa_neg {v : Int} (h : v < 0) : Lib.itoa v = 45 :: Lib.decDigits v.natAbs := by unfold Lib.itoa; rw [if_pos h]
theorem parseMag_dec (u : Nat) (hu : u < 1000000000000000000) : Lib.parseMag (Lib.decDigits u) = .ok u := by
  unfold Lib.parseMag
  rw [if_neg (dec_ne u), parse_dec u hu]
theorem atoi_itoa {v : Int} (h0 : -1000000000000 ≤ v) (h1 : v ≤ 1000000000000) : Lib.atoiAll (Lib.itoa v) = .ok v := by
  by_cases h : v < 0
  · rw [itoa_neg h]
    unfold Lib.atoiAll
    simp only
    rw [if_pos (.inr (by decide)), parseMag_dec _ (by omega)]
    simp only
    rw [if_neg (fun h => h.1 (by decide)), if_neg (fun h => by omega), if_pos (by decide)]
    congr 1
    omega
  · rw [itoa_pos h]
    have hp := parseMag_dec v.toNat (by omega)
    have hd := dec_digit v.toNat
    cases hl : Lib.decDigits v.toNat with
    | nil => exact absurd hl (dec_ne _)
    | cons c r =>
      rw [hl] at hp hd
      have hc := hd c (.head _)
      unfold Lib.atoiAll
      simp only
      rw [if_neg (by omega), hp]
      simp only
      rw [if_neg (fun h => by omega), if_neg (fun h => by omega), if_neg (by omega)]
      congr 1
      omega
theorem itoaB_list (v : Int) : (itoaB v).data.toList = Lib.itoa v := by unfold itoaB; simp
theorem number_itoa {v : Int} (h0 : -1000000000000 ≤ v) (h1 : v ≤ 1000000000000) : numberB (itoaB v) = some v := by
  unfold numberB
  rw [itoaB_list, atoi_itoa h0 h1]
  simp only
  rw [if_pos ⟨trivial, h0, h1⟩]
theorem number_some {s : ByteArray} {v : Int} (h : numberB s = some v) : itoaB v = s ∧ -1000000000000 ≤ v ∧ v ≤ 1000000000000 := by
  unfold numberB at h
  split at h
  · split at h
    · rename_i hc
      injection h with h
      subst h
      exact hc
    · cases h
  · cases h
theorem number_none {s : ByteArray} (h : ∀ v, itoaB v ≠ s) : numberB s = none := by
  cases hn : numberB s with
  | none => rfl
  | some v => exact absurd (number_some hn).1 (h v)
theorem itoa_zero_head {v : Int} {r : List UInt8} (h : Lib.itoa v = 48 :: r) : r = [] := by
  by_cases hv : v < 0
  · rw [itoa_neg hv] at h
    injection h with h1 _
    exact absurd h1 (by decide)
  · rw [itoa_pos hv] at h
    exact dec_head _ _ h
theorem itoa_ne (v : Int) : Lib.itoa v ≠ [] := by
  by_cases hv : v < 0
  · rw [itoa_neg hv]; simp
  · rw [itoa_pos hv]; exact dec_ne _
theorem itoa_plus {v : Int} {r : List UInt8} (h : Lib.itoa v = 43 :: r) : False := by
  by_cases hv : v < 0
  · rw [itoa_neg hv] at h
    injection h with h1 _
    exact absurd h1 (by decide)
  · rw [itoa_pos hv] at h
    have := dec_digit v.toNat 43 (by rw [h]; exact .head _)
    exact absurd this.1 (by decide)
theorem itoa_space {v : Int} {r : List UInt8} (h : Lib.itoa v = r ++ [32]) : False := by
  by_cases hv : v < 0
  · rw [itoa_neg hv] at h
    cases r with
    | nil => injection h with h1 _; exact absurd h1 (by decide)
    | cons c r =>
      injection h with _ h2
      have := dec_digit v.natAbs 32 (by rw [h2]; simp)
      exact absurd this.1 (by decide)
  · rw [itoa_pos hv] at h
    have := dec_digit v.toNat 32 (by rw [h]; simp)
    exact absurd this.1 (by decide)

theorem number_zero (v : Int) : numberB (⟨#[48]⟩ ++ itoaB v) = none := by
  refine number_none fun u h => ?_
  have h1 := congrArg (fun b : ByteArray => b.data.toList) h
  simp only [ByteArray.data_append, Array.toList_append, itoaB_list] at h1
  exact itoa_ne v (itoa_zero_head h1)
theorem number_plus (v : Int) : numberB (⟨#[43]⟩ ++ itoaB v) = none := by
  refine number_none fun u h => ?_
  have h1 := congrArg (fun b : ByteArray => b.data.toList) h
  simp only [ByteArray.data_append, Array.toList_append, itoaB_list] at h1
  exact itoa_plus h1
theorem number_space (v : Int) : numberB (itoaB v ++ ⟨#[32]⟩) = none := by
  refine number_none fun u h => ?_
  have h1 := congrArg (fun b : ByteArray => b.data.toList) h
  simp only [ByteArray.data_append, Array.toList_append, itoaB_list] at h1
  exact itoa_space h1

/-- What digits spell. -/
def valD (acc : Int) : List UInt8 → Int
  | [] => acc
  | c :: r => valD (acc * 10 + ((c.toNat : Int) - 48)) r
theorem valD_append : ∀ (l m : List UInt8) (acc : Int), valD acc (l ++ m) = valD (valD acc l) m
  | [], _, _ => rfl
  | c :: r, m, acc => valD_append r m _
theorem valD_dec (u : Nat) : valD 0 (Lib.decDigits u) = u := by
  induction u using Nat.strongRecOn with
  | _ u ih =>
    by_cases h : u < 10
    · rw [dec_small h, valD, valD, u8_small (by omega)]
      omega
    · rw [dec_big h, valD_append, ih (u / 10) (by omega), valD, valD, u8_small (by omega)]
      omega
/-- The document's own reading of a number. -/
def digsOf (s : List UInt8) : List UInt8 := if s.head? = some 45 then s.tail else s
def refNum (s : ByteArray) : Option Int :=
  if digsOf s.data.toList = [] ∨ 13 < (digsOf s.data.toList).length then none
  else if ∀ c ∈ digsOf s.data.toList, 48 ≤ c.toNat ∧ c.toNat ≤ 57 then
    let v := if s.data.toList.head? = some 45 then - valD 0 (digsOf s.data.toList) else valD 0 (digsOf s.data.toList)
    if -1000000000000 ≤ v ∧ v ≤ 1000000000000 ∧ itoaB v = s then some v else none
  else none
theorem digs_itoa (v : Int) : digsOf (Lib.itoa v) = Lib.decDigits v.natAbs ∧ (v < 0 ↔ (Lib.itoa v).head? = some 45) := by
  by_cases hv : v < 0
  · rw [itoa_neg hv]
    exact ⟨by unfold digsOf; simp, by simp [hv]⟩
  · rw [itoa_pos hv]
    have hn : (Lib.decDigits v.toNat).head? ≠ some 45 := by
      cases hl : Lib.decDigits v.toNat with
      | nil => simp
      | cons c r =>
        intro h
        simp only [List.head?_cons, Option.some.injEq] at h
        subst h
        have := dec_digit v.toNat 45 (by rw [hl]; exact .head _)
        exact absurd this.1 (by decide)
    refine ⟨?_, by simp [hv, hn]⟩
    unfold digsOf
    rw [if_neg hn, show v.toNat = v.natAbs by omega]
theorem refNum_eq (s : ByteArray) : refNum s = numberB s := by
  cases hn : numberB s with
  | some v =>
    obtain ⟨rfl, h0, h1⟩ := number_some hn
    obtain ⟨d1, d2⟩ := digs_itoa v
    unfold refNum
    rw [itoaB_list, d1, if_neg (by
      rintro (h | h)
      · exact dec_ne _ h
      · rw [Lib.decDigits_length] at h
        have h3 := Lib.nDigits_pos v.natAbs
        have h4 : Lib.nDigits v.natAbs ≤ 13 := by
          rcases Nat.lt_or_ge (Lib.nDigits v.natAbs) 14 with h5 | h5
          · omega
          · exfalso
            have h6 := Lib.decDigits_length v.natAbs
            have : v.natAbs < 10 ^ 13 := by omega
            have := few 12 v.natAbs this
            omega
        omega), if_pos (dec_digit _)]
    simp only
    have e : (if (Lib.itoa v).head? = some 45 then - valD 0 (Lib.decDigits v.natAbs) else valD 0 (Lib.decDigits v.natAbs)) = v := by
      rw [valD_dec]
      split
      · rename_i h; have := d2.2 h; omega
      · rename_i h; have : ¬ v < 0 := fun hv => h (d2.1 hv); omega
    rw [e, if_pos ⟨h0, h1, rfl⟩]
  | none =>
    unfold refNum
    split
    · rfl
    · split
      · simp only
        generalize (if s.data.toList.head? = some 45 then - valD 0 (digsOf s.data.toList) else valD 0 (digsOf s.data.toList)) = v
        split
        · rename_i h
          obtain ⟨h0, h1, rfl⟩ := h
          rw [number_itoa h0 h1] at hn
          cases hn
        · rfl
      · rfl
where
  few : ∀ (k u : Nat), u < 10 ^ (k + 1) → Lib.nDigits u ≤ k + 1
    | 0, u, h => by rw [Lib.nDigits_small (by simpa using h)]; exact Nat.le_refl _
    | k + 1, u, h => by
      by_cases hu : u < 10
      · rw [Lib.nDigits_small hu]; omega
      · rw [Lib.nDigits_big hu]
        have := few k (u / 10) (by rw [Nat.pow_succ] at h; omega)
        omega

/-! Every command: the budget, the versions. -/
def isW (op : Int) : Prop := op = 2 ∨ op = 3 ∨ op = 4 ∨ op = 6 ∨ op = 7 ∨ op = 8
instance (op : Int) : Decidable (isW op) := by unfold isW; infer_instance
/-- What a command does to versions. -/
structure Told (s : CSt) (x : Cm) (r : Rp) (s' : CSt) : Prop where
  bud : s'.bud = s.bud
  w1 : isW x.op → r.errno = 0 → r.ver = s.ver + 1 ∧ s'.ver = s.ver + 1
  w2 : isW x.op → r.errno ≠ 0 → r.ver = 0 ∧ s'.ver = s.ver
  o : ¬ isW x.op → s'.ver = s.ver
  g : x.op = 1 → r.ver ≤ s.ver ∧ (r.errno = 0 → 1 ≤ r.ver)
  inv : ∀ y ∈ s'.U, 1 ≤ y.ver ∧ y.ver ≤ s'.ver
def VerOk (s : CSt) : Prop := 0 ≤ s.ver ∧ ∀ y ∈ s.U, 1 ≤ y.ver ∧ y.ver ≤ s.ver
theorem told_err {s : CSt} {x : Cm} {e : Int} (h : VerOk s) (he : e ≠ 0) : Told s x (Rp.err e) s :=
  ⟨rfl, fun _ h => absurd h he, fun _ _ => ⟨rfl, rfl⟩, fun _ => rfl, fun _ => ⟨h.1, fun h => absurd h he⟩, h.2⟩
theorem told_write {s : CSt} {x : Cm} (h : VerOk s) (y : It) (hw : isW x.op) : Told s x (writeC s y).1 (writeC s y).2 := by
  have h1 : x.op ≠ 1 := by unfold isW at hw; omega
  unfold writeC
  split
  · exact told_err h (by decide)
  · refine ⟨rfl, fun _ _ => ⟨rfl, rfl⟩, fun _ h => absurd rfl h, fun h => absurd hw h, fun h => absurd h h1, fun z hz => ?_⟩
    have h0 := h.1
    rcases putC_mem ((evict_suffix _ _).subset hz) with h2 | rfl
    · have := h.2 z h2
      simp only
      omega
    · simp only
      omega
theorem VerOk.sub {s : CSt} (h : VerOk s) {U : List It} (hU : ∀ y ∈ U, y ∈ s.U) : VerOk { s with U := U } := ⟨h.1, fun y hy => h.2 y (hU y hy)⟩
theorem told_did {s : CSt} (x : Cm) (now : Int) (h : VerOk s) (hn : (keys s.U).Nodup) (ho0 : 1 ≤ x.op) (ho1 : x.op ≤ 13) : Told s x (didC s x now).1 (didC s x now).2 := by
  have h0 := h.1
  unfold didC
  split
  · rename_i hop
    have hw : isW x.op := by unfold isW; omega
    unfold setC
    split
    · exact told_err h (by decide)
    · split
      · exact told_err h (by decide)
      · split
        · exact told_err h (by decide)
        · split
          · exact told_err h (by decide)
          · exact told_write h _ hw
  · rename_i hop
    split
    · rename_i h11
      unfold scanC
      split
      · exact told_err h (by decide)
      · exact ⟨rfl, fun hw => by unfold isW at hw; omega, fun hw => by unfold isW at hw; omega, fun _ => rfl, fun h => by omega, h.2⟩
    · split
      · exact ⟨rfl, fun hw => by unfold isW at hw; omega, fun hw => by unfold isW at hw; omega, fun _ => rfl, fun h => by omega, fun y hy => by cases hy⟩
      · split
        · exact ⟨rfl, fun hw => by unfold isW at hw; omega, fun hw => by unfold isW at hw; omega, fun _ => rfl, fun h => by omega, h.2⟩
        · unfold itemC
          split
          · exact told_err h (by decide)
          · split
            · exact told_err h (by decide)
            · rename_i was hl
              have hwas := h.2 was ((look_mem hn).1 hl).1
              split
              · refine ⟨rfl, fun hw => by unfold isW at hw; omega, fun hw => by unfold isW at hw; omega, fun _ => rfl, fun _ => ⟨hwas.2, fun _ => hwas.1⟩, fun y hy => ?_⟩
                rcases putC_mem hy with h2 | rfl
                · exact h.2 y h2
                · exact hwas
              · split
                · refine ⟨rfl, fun hw => by unfold isW at hw; omega, fun hw => by unfold isW at hw; omega, fun _ => rfl, fun h => by omega, h.2⟩
                · split
                  · exact ⟨rfl, fun hw => by unfold isW at hw; omega, fun hw => by unfold isW at hw; omega, fun _ => rfl, fun h => by omega, fun y hy => h.2 y (List.mem_filter.1 hy).1⟩
                  · split
                    · refine ⟨rfl, fun hw => by unfold isW at hw; omega, fun hw => by unfold isW at hw; omega, fun _ => rfl, fun h => by omega, fun y hy => ?_⟩
                      rcases putC_mem hy with h2 | rfl
                      · exact h.2 y h2
                      · exact hwas
                    · split
                      · rename_i h7
                        have hw : isW x.op := by unfold isW; omega
                        unfold incrC
                        split
                        · split
                          · exact told_err h (by decide)
                          · rename_i v _ _
                            have ht := told_write (x := x) h ⟨was.key, itoaB (v + x.num), was.ver, was.til⟩ hw
                            simp only
                            split
                            · rename_i hz
                              exact ⟨ht.bud, fun a _ => ht.w1 a hz, fun _ b => absurd rfl b, ht.o, fun h => by omega, ht.inv⟩
                            · exact ht
                        · exact told_err h (by decide)
                      · have hw : isW x.op := by unfold isW; omega
                        unfold behindC
                        split
                        · exact told_err h (by decide)
                        · exact told_write h _ hw
theorem told_do {s : CSt} (x : Cm) (now : Int) (h : VerOk s) (hn : (keys s.U).Nodup) : Told s x (doC s x now).1 (doC s x now).2 := by
  unfold doC
  split
  · exact told_err h (by decide)
  · rename_i hc
    have hr : rightC x := Classical.byContradiction fun hn => hc (.inl hn)
    have ht := told_did (s := { s with U := sweepC now s.U }) x now (h.sub fun y hy => (List.mem_filter.1 hy).1) (keys_filter_nodup hn _) hr.1 hr.2.1
    exact ⟨ht.bud, ht.w1, ht.w2, ht.o, ht.g, ht.inv⟩
theorem newC_ver (b : Int) : VerOk (newC b) := ⟨Int.le_refl _, fun y hy => by cases hy⟩
theorem Told.ok {s s' : CSt} {x : Cm} {r : Rp} (h : Told s x r s') (h0 : VerOk s) : VerOk s' := by
  refine ⟨?_, h.inv⟩
  have := h0.1
  by_cases hw : isW x.op
  · by_cases he : r.errno = 0
    · have := (h.w1 hw he).2; omega
    · have := (h.w2 hw he).2; omega
  · have := h.o hw; omega

/-! CacheBudget -/
def reL (used : List ByteArray) (k : ByteArray) : List ByteArray := used.filter (fun u => decide (u ≠ k)) ++ [k]
theorem bud_still {s : CSt} (h : ∀ y ∈ s.U, y.til = 0) : ∀ y ∈ s.U, y.til = 0 ∨ (1 : Int) ≤ y.til := fun y hy => .inl (h y hy)
theorem bud_right {k v : ByteArray} (hk0 : 1 ≤ k.size) (hk1 : k.size ≤ 60) (hv : v.size ≤ 500) : rightC ⟨2, k, v, 0, 0⟩ := right_of (by simp) (by simp) hk0 hk1 hv (by simp) (by simp) (by simp) (by simp)
theorem bud_large {s : CSt} {k v : ByteArray} (hs : ∀ y ∈ s.U, y.til = 0) (hk0 : 1 ≤ k.size) (hk1 : k.size ≤ 60) (hv : v.size ≤ 500) (h : s.bud < 16 + (k.size : Int) + v.size) : doC s ⟨2, k, v, 0, 0⟩ 1 = (Rp.err 13, s) := by
  rw [doC_in (bud_right hk0 hk1 hv) (by decide) (by decide) (bud_still hs), did_set rfl (by simp), write_big]
  unfold costI
  exact h
theorem bud_fits {s : CSt} {m : Int} (hg : GoodC s m) {k v : ByteArray} (hs : ∀ y ∈ s.U, y.til = 0) (hk0 : 1 ≤ k.size) (hk1 : k.size ≤ 60) (hv : v.size ≤ 500) (h : ¬ s.bud < 16 + (k.size : Int) + v.size) :
    ∃ r s', doC s ⟨2, k, v, 0, 0⟩ 1 = (r, s') ∧ r.errno = 0 ∧ s'.bud = s.bud ∧ (∀ y ∈ s'.U, y.til = 0) ∧ keys s'.U <:+ reL (keys s.U) k ∧ 1 ≤ s'.U.length ∧ usedL s'.U ≤ s.bud := by
  have hc : ¬ s.bud < costI ⟨k, v, 0, 0⟩ := h
  have hx : costI ⟨k, v, s.ver + 1, 0⟩ ≤ s.bud := by unfold costI; simp only; omega
  refine ⟨_, _, (doC_in (bud_right hk0 hk1 hv) (by decide) (by decide) (bud_still hs)).trans ((did_set rfl (by simp)).trans (if_neg hc)), rfl, rfl, ?_, ?_, ?_, ?_⟩
  · intro y hy
    rcases putC_mem ((evict_suffix _ _).subset hy) with h2 | rfl
    · exact hs y h2
    · rfl
  · have h1 := evict_suffix s.bud (putC s.U ⟨k, v, s.ver + 1, 0⟩)
    have h2 : keys (putC s.U ⟨k, v, s.ver + 1, 0⟩) = reL (keys s.U) k := keys_put _
    rw [← h2]
    exact h1.map It.key
  · obtain ⟨V, h1, _⟩ := evict_last hx (delL s.U k)
    show 1 ≤ (evict s.bud (delL s.U k ++ [⟨k, v, s.ver + 1, 0⟩])).length
    rw [h1, List.length_append, List.length_singleton]
    omega
  · exact evict_used hg.b0 _
theorem suffix_drop {l m : List ByteArray} (h : l <:+ m) : m.drop (m.length - l.length) = l := by
  obtain ⟨t, rfl⟩ := h
  rw [List.length_append, show t.length + l.length - l.length = t.length by omega, List.drop_left']
  rfl

/-! CacheCounts -/
def nB : ByteArray := ⟨#[110]⟩
def tB : ByteArray := ⟨#[116]⟩
def x1B : ByteArray := ⟨#[120, 49]⟩
def tI : It := ⟨tB, x1B, 2, 0⟩
/-- The counter's value is v. -/
structure CntS (v : Int) (s : CSt) : Prop where
  bud : s.bud = 10000
  u : ∃ nv, s.U = [⟨nB, itoaB v, nv, 0⟩, tI] ∨ s.U = [tI, ⟨nB, itoaB v, nv, 0⟩]
theorem CntS.stays {v : Int} {s : CSt} (h : CntS v s) : ∀ y ∈ s.U, y.til = 0 ∨ (1 : Int) ≤ y.til := by
  obtain ⟨nv, h | h⟩ := h.u
  · intro y hy
    rw [h] at hy
    rcases List.mem_cons.1 hy with rfl | hy
    · exact .inl rfl
    · rw [List.mem_singleton.1 hy]; exact .inl rfl
  · intro y hy
    rw [h] at hy
    rcases List.mem_cons.1 hy with rfl | hy
    · exact .inl rfl
    · rw [List.mem_singleton.1 hy]; exact .inl rfl
theorem nt_ne : ¬ tB = nB := by decide
theorem tn_ne : ¬ nB = tB := by decide
theorem CntS.lookN {v : Int} {s : CSt} (h : CntS v s) : ∃ nv, look s.U nB = some ⟨nB, itoaB v, nv, 0⟩ := by
  obtain ⟨nv, h | h⟩ := h.u
  · refine ⟨nv, ?_⟩
    rw [h]
    unfold look
    rw [List.find?_cons_of_pos (by simp)]
  · refine ⟨nv, ?_⟩
    rw [h]
    unfold look
    rw [List.find?_cons_of_neg (by exact fun h => nt_ne (of_decide_eq_true h)), List.find?_cons_of_pos (by simp)]
theorem CntS.lookT {v : Int} {s : CSt} (h : CntS v s) : look s.U tB = some tI := by
  obtain ⟨nv, h | h⟩ := h.u
  · rw [h]
    unfold look
    rw [List.find?_cons_of_neg (by simpa using tn_ne), List.find?_cons_of_pos (by simp [tI])]
  · rw [h]
    unfold look
    rw [List.find?_cons_of_pos (by simp [tI])]
theorem CntS.put {v v' : Int} {s : CSt} (h : CntS v s) (nv : Int) : putC s.U ⟨nB, itoaB v', nv, 0⟩ = [tI, ⟨nB, itoaB v', nv, 0⟩] := by
  obtain ⟨n, h | h⟩ := h.u
  · rw [h]
    unfold putC delL
    rw [List.filter_cons_of_neg (by simp), List.filter_cons_of_pos (by exact decide_eq_true nt_ne)]
    rfl
  · rw [h]
    unfold putC delL
    rw [List.filter_cons_of_pos (by exact decide_eq_true nt_ne), List.filter_cons_of_neg (by simp)]
    rfl
theorem cnt_right {op num : Int} {k v : ByteArray} (h0 : 1 ≤ op) (h1 : op ≤ 10) (hk : k.size = 1) (hv : v.size ≤ 500) (hn0 : -1000000000000 ≤ num) (hn1 : num ≤ 1000000000000) : rightC ⟨op, k, v, num, 0⟩ :=
  right_of h0 h1 (by simp only; omega) (by simp only; omega) hv hn0 hn1 (by simp) (by simp)
theorem x1_none : numberB x1B = none := by
  unfold numberB
  rw [show Lib.atoiAll x1B.data.toList = .syntax by decide +kernel]
theorem CntS.incrT {v n : Int} {s : CSt} (h : CntS v s) (hn0 : -1000000000000 ≤ n) (hn1 : n ≤ 1000000000000) : doC s ⟨7, tB, ⟨#[]⟩, n, 0⟩ 1 = (Rp.err 12, s) := by
  rw [doC_in (cnt_right (by decide) (by decide) rfl (by decide) hn0 hn1) (by decide) (by decide) h.stays, did_incr rfl h.lookT]
  unfold incrC
  rw [show numberB tI.val = none from x1_none]
theorem CntS.get {v : Int} {s : CSt} (h : CntS v s) : ∃ r s', doC s ⟨1, nB, ⟨#[]⟩, 0, 0⟩ 1 = (r, s') ∧ r.val = itoaB v ∧ CntS v s' := by
  obtain ⟨nv, hl⟩ := h.lookN
  refine ⟨_, _, (doC_in (cnt_right (by decide) (by decide) rfl (by decide) (by decide) (by decide)) (by decide) (by decide) h.stays).trans (did_get rfl hl), rfl, h.bud, nv, .inr ?_⟩
  exact h.put nv
theorem CntS.incr_ok {v n : Int} {s : CSt} (h : CntS v s) (hv0 : -1000000000000 ≤ v) (hv1 : v ≤ 1000000000000) (hn0 : -1000000000000 ≤ n) (hn1 : n ≤ 1000000000000) (hs : ¬ (v + n < -1000000000000 ∨ 1000000000000 < v + n)) :
    ∃ r s', doC s ⟨7, nB, ⟨#[]⟩, n, 0⟩ 1 = (r, s') ∧ r.errno = 0 ∧ r.num = v + n ∧ CntS (v + n) s' := by
  obtain ⟨nv, hl⟩ := h.lookN
  have hw : writeC s ⟨nB, itoaB (v + n), nv, 0⟩ = (⟨0, ⟨#[]⟩, 0, s.ver + 1, []⟩, ⟨s.bud, [tI, ⟨nB, itoaB (v + n), s.ver + 1, 0⟩], s.ver + 1, s.gone⟩) := by
    have hf := itoaB_few (n := v + n) (by omega) (by omega)
    rw [write_room (by
      simp only
      rw [h.put, usedL_cons, usedL_cons, usedL_nil, h.bud]
      unfold costI tI
      simp only
      have h1 : tB.size = 1 := rfl
      have h2 : x1B.size = 2 := rfl
      have h3 : nB.size = 1 := rfl
      omega)]
    simp only
    rw [h.put]
  refine ⟨⟨0, ⟨#[]⟩, v + n, s.ver + 1, []⟩, ⟨s.bud, [tI, ⟨nB, itoaB (v + n), s.ver + 1, 0⟩], s.ver + 1, s.gone⟩, ?_, rfl, rfl, h.bud, s.ver + 1, .inr rfl⟩
  rw [doC_in (cnt_right (by decide) (by decide) rfl (by decide) hn0 hn1) (by decide) (by decide) h.stays, did_incr rfl hl]
  unfold incrC
  simp only
  rw [number_itoa hv0 hv1]
  simp only
  rw [if_neg hs, hw]
  rfl
theorem CntS.incr_big {v n : Int} {s : CSt} (h : CntS v s) (hv0 : -1000000000000 ≤ v) (hv1 : v ≤ 1000000000000) (hn0 : -1000000000000 ≤ n) (hn1 : n ≤ 1000000000000) (hs : v + n < -1000000000000 ∨ 1000000000000 < v + n) :
    doC s ⟨7, nB, ⟨#[]⟩, n, 0⟩ 1 = (Rp.err 12, s) := by
  obtain ⟨nv, hl⟩ := h.lookN
  rw [doC_in (cnt_right (by decide) (by decide) rfl (by decide) hn0 hn1) (by decide) (by decide) h.stays, did_incr rfl hl]
  unfold incrC
  simp only
  rw [number_itoa hv0 hv1]
  simp only
  rw [if_pos hs]
theorem cnt_start {v : Int} (hv0 : -1000000000000 ≤ v) (hv1 : v ≤ 1000000000000) :
    ∃ s1 r2 s2, doC (newC 10000) ⟨2, nB, itoaB v, 0, 0⟩ 1 = (⟨0, ⟨#[]⟩, 0, 1, []⟩, s1) ∧ doC s1 ⟨2, tB, x1B, 0, 0⟩ 1 = (r2, s2) ∧ CntS v s2 := by
  have hf := itoaB_few hv0 hv1
  refine ⟨⟨10000, [⟨nB, itoaB v, 1, 0⟩], 1, 0⟩, ⟨0, ⟨#[]⟩, 0, 2, []⟩, ⟨10000, [⟨nB, itoaB v, 1, 0⟩, tI], 2, 0⟩, ?_, ?_, rfl, 1, .inl rfl⟩
  · rw [newC_at (by decide) (by decide), doC_in (cnt_right (by decide) (by decide) rfl hf (by decide) (by decide)) (by decide) (by decide) (fun y hy => by cases hy), did_set rfl (by simp), first_write (by
      unfold costI
      simp only
      have h3 : nB.size = 1 := rfl
      omega)]
    rfl
  · have hp : putC [(⟨nB, itoaB v, 1, 0⟩ : It)] ⟨tB, x1B, 2, 0⟩ = [⟨nB, itoaB v, 1, 0⟩, tI] := by
      unfold putC delL
      rw [List.filter_cons_of_pos (by simpa using tn_ne)]
      rfl
    rw [doC_in (cnt_right (by decide) (by decide) rfl (by decide) (by decide) (by decide)) (by decide) (by decide) (fun y hy => by rw [List.mem_singleton.1 hy]; exact .inl rfl), did_set rfl (by simp), write_room (by
      show usedL (putC [(⟨nB, itoaB v, 1, 0⟩ : It)] ⟨tB, x1B, 2, 0⟩) ≤ 10000
      rw [hp, usedL_cons, usedL_cons, usedL_nil]
      unfold costI tI
      simp only
      have h1 : tB.size = 1 := rfl
      have h2 : x1B.size = 2 := rfl
      have h3 : nB.size = 1 := rfl
      omega)]
    show (_, (⟨10000, putC [(⟨nB, itoaB v, 1, 0⟩ : It)] ⟨tB, x1B, 2, 0⟩, 2, 0⟩ : CSt)) = _
    rw [hp]
    rfl

/-! CacheParts -/
theorem items_cost (U : List It) (hn : (keys U).Nodup) : usedL (itemsL U) = usedL U := by
  refine usedL_perm ?_
  unfold itemsL
  have h1 : ((sortB (keys U)).map (fun k => (look U k).getD It.none)).Perm ((keys U).map (fun k => (look U k).getD It.none)) := (sortB_perm (keys U)).map _
  refine h1.trans (List.Perm.of_eq ?_)
  unfold keys
  rw [List.map_map]
  have : ∀ y ∈ U, ((fun k => (look U k).getD It.none) ∘ It.key) y = y := fun y hy => by
    simp only [Function.comp]
    rw [(look_mem hn).2 ⟨hy, rfl⟩]
    rfl
  rw [List.map_congr_left this, List.map_id'']
  intro y
  rfl
theorem items_keys (U : List It) (hn : (keys U).Nodup) : keys (itemsL U) = sortB (keys U) := by
  unfold itemsL
  show List.map It.key _ = _
  rw [List.map_map]
  conv => rhs; rw [← List.map_id (sortB (keys U))]
  apply List.map_congr_left
  intro k hk
  simp only [Function.comp, id]
  have h1 := (sortB_perm (keys U)).mem_iff.1 hk
  obtain ⟨y, hy, rfl⟩ := List.mem_map.1 h1
  rw [(look_mem hn).2 ⟨hy, rfl⟩]
  rfl
section
open Classical

theorem used_le {e : Int} : ∀ {U : List It}, (∀ y ∈ U, costI y ≤ e) → usedL U ≤ U.length * e
  | [], _ => by simp [usedL_nil]
  | x :: U, h => by
    have h1 := used_le (U := U) (fun y hy => h y (.tail _ hy))
    have h2 := h x (.head _)
    rw [usedL_cons, List.length_cons, show ((U.length + 1 : Nat) : Int) = (U.length : Int) + 1 by omega, Int.add_mul]
    omega
theorem used_ge {e : Int} : ∀ {U : List It}, (∀ y ∈ U, e ≤ costI y) → U.length * e ≤ usedL U
  | [], _ => by simp [usedL_nil]
  | x :: U, h => by
    have h1 := used_ge (U := U) (fun y hy => h y (.tail _ hy))
    have h2 := h x (.head _)
    rw [usedL_cons, List.length_cons, show ((U.length + 1 : Nat) : Int) = (U.length : Int) + 1 by omega, Int.add_mul]
    omega
/-- A cache with room enough in which keys were set. -/
structure FlS (ks : List ByteArray) (s : CSt) : Prop where
  bud : s.bud = 100000
  gone : s.gone = 0
  ver : s.ver = ks.length
  nd : (keys s.U).Nodup
  len : s.U.length ≤ ks.length
  each : ∀ y ∈ s.U, y.til = 0 ∧ 18 ≤ costI y ∧ costI y ≤ 77
  mem : ∀ k, k ∈ keys s.U ↔ k ∈ ks
theorem FlS.start : FlS [] (newC 100000) := ⟨rfl, rfl, rfl, by simp [newC, keys], Nat.le_refl _, (fun y hy => by cases hy), fun k => by simp [newC, keys]⟩
theorem FlS.stays {ks : List ByteArray} {s : CSt} (h : FlS ks s) : ∀ y ∈ s.U, y.til = 0 ∨ (1 : Int) ≤ y.til := fun y hy => .inl (h.each y hy).1
theorem mem_look {U : List It} (hn : (keys U).Nodup) (k : ByteArray) : k ∈ keys U ↔ ∃ y, look U k = some y := by
  constructor
  · intro h
    obtain ⟨y, hy, rfl⟩ := List.mem_map.1 h
    exact ⟨y, (look_mem hn).2 ⟨hy, rfl⟩⟩
  · rintro ⟨y, h⟩
    have := (look_mem hn).1 h
    exact List.mem_map.2 ⟨y, this.1, this.2⟩
theorem FlS.set {ks : List ByteArray} {s : CSt} (h : FlS ks s) {k : ByteArray} (hl : ks.length < 40) (hk0 : 1 ≤ k.size) (hk1 : k.size ≤ 60) :
    ∃ r s', doC s ⟨2, k, vB, 0, 0⟩ 1 = (r, s') ∧ FlS (ks ++ [k]) s' ∧ s'.U.length = s.U.length + (if k ∈ ks then 0 else 1) ∧ keys s'.U = (keys s.U).filter (fun u => decide (u ≠ k)) ++ [k] := by
  have hv : vB.size = 1 := rfl
  have hc : costI ⟨k, vB, s.ver + 1, 0⟩ = 17 + (k.size : Int) := by unfold costI; simp only; omega
  have hu := used_le (fun y hy => (h.each y hy).2.2)
  have hlen := h.len
  have hroom : usedL (putC s.U ⟨k, vB, s.ver + 1, 0⟩) ≤ s.bud := by
    have h1 := usedL_put_le s.U ⟨k, vB, s.ver + 1, 0⟩
    rw [h.bud]
    omega
  refine ⟨_, _, (doC_in (bud_right hk0 hk1 (by rw [hv]; decide)) (by decide) (by decide) h.stays).trans ((did_set rfl (by simp)).trans (write_room hroom)), ⟨h.bud, h.gone, ?_, putC_nodup h.nd _, ?_, ?_, ?_⟩, ?_, keys_put _⟩
  · simp only [List.length_append, List.length_singleton]
    have := h.ver
    omega
  · simp only [List.length_append, List.length_singleton]
    have := putC_length s.U ⟨k, vB, s.ver + 1, 0⟩
    exact Nat.le_trans this (by omega)
  · intro y hy
    rcases putC_mem hy with h2 | rfl
    · exact h.each y h2
    · refine ⟨rfl, ?_, ?_⟩ <;> · have : costI ⟨k, vB, s.ver + 1, untilC 0 1⟩ = 17 + (k.size : Int) := hc
                                 simp only at this ⊢
                                 omega
  · intro u
    show u ∈ keys (putC s.U ⟨k, vB, s.ver + 1, 0⟩) ↔ _
    rw [keys_put]
    simp only [List.mem_append, List.mem_filter, List.mem_singleton, decide_eq_true_eq, h.mem u]
    constructor
    · rintro (⟨h1, _⟩ | h1)
      · exact .inl h1
      · exact .inr h1
    · rintro (h1 | h1)
      · by_cases e : u = k
        · exact .inr e
        · exact .inl ⟨h1, e⟩
      · exact .inr h1
  · show (putC s.U ⟨k, vB, s.ver + 1, 0⟩).length = _
    by_cases hm : k ∈ ks
    · obtain ⟨y, hy⟩ := (mem_look h.nd k).1 ((h.mem k).2 hm)
      rw [if_pos hm, putC_len_some h.nd (x := ⟨k, vB, s.ver + 1, 0⟩) hy, Nat.add_zero]
    · have hn : look s.U k = none := by
        cases hq : look s.U k with
        | none => rfl
        | some y => exact absurd ((h.mem k).1 ((mem_look h.nd k).2 ⟨y, hq⟩)) hm
      rw [if_neg hm, putC_len_none (x := ⟨k, vB, s.ver + 1, 0⟩) hn]
theorem flush_right {op : Int} (h : op = 12 ∨ op = 13) : rightC ⟨op, ⟨#[]⟩, ⟨#[]⟩, 0, 0⟩ := by
  rcases h with rfl | rfl
  · decide
  · decide
theorem FlS.stats {ks : List ByteArray} {s : CSt} (h : FlS ks s) : doC s ⟨13, ⟨#[]⟩, ⟨#[]⟩, 0, 0⟩ 1 = (⟨0, ⟨#[]⟩, s.U.length, usedL s.U, []⟩, s) :=
  (doC_in (flush_right (.inr rfl)) (by decide) (by decide) h.stays).trans (did_stats rfl)
theorem FlS.flush {ks : List ByteArray} {s : CSt} (h : FlS ks s) : doC s ⟨12, ⟨#[]⟩, ⟨#[]⟩, 0, 0⟩ 1 = (⟨0, ⟨#[]⟩, s.U.length, 0, []⟩, ⟨100000, [], ks.length, 0⟩) :=
  (doC_in (flush_right (.inl rfl)) (by decide) (by decide) h.stays).trans ((did_flush rfl).trans (by rw [h.bud, h.gone, h.ver]))
theorem FlS.last {n : Nat} : doC ⟨100000, [], n, 0⟩ ⟨2, kB, vB, 0, 0⟩ 1 = (⟨0, ⟨#[]⟩, 0, (n : Int) + 1, []⟩, ⟨100000, [⟨kB, vB, (n : Int) + 1, 0⟩], (n : Int) + 1, 0⟩) := by
  rw [doC_in (kB_right (by decide) (by decide) (by decide) (by decide) (by decide)) (by decide) (by decide) (fun y hy => by cases hy), did_set rfl (by simp), first_write (show (16 + ((⟨#[107]⟩ : ByteArray).size : Int) + ((⟨#[118]⟩ : ByteArray).size : Int)) ≤ 100000 by decide)]
  rfl
theorem FlS.used18 {ks : List ByteArray} {s : CSt} (h : FlS ks s) : 18 * (s.U.length : Int) ≤ usedL s.U := by
  have := used_ge (fun y hy => (h.each y hy).2.1)
  omega

/-! CacheScans -/
def preB (pre k : ByteArray) : Bool := Lib.hasPrefix k.data.toList pre.data.toList
/-- The keys that begin so, rising. -/
def preL (U : List It) (pre : ByteArray) : List ByteArray := (sortB (keys U)).filter (preB pre)
theorem blt_irrefl (x : ByteArray) : bltB x x = false := by
  unfold bltB
  exact decide_eq_false (List.lt_irrefl _)
theorem blt_asymm {x y : ByteArray} (h : bltB x y = true) : bltB y x = false := by
  unfold bltB at *
  have h1 := of_decide_eq_true h
  exact decide_eq_false fun h2 => List.lt_asymm h1 h2
theorem blt_of_le_ne {x y : ByteArray} (h : bytesLe x y) (hne : x ≠ y) : bltB x y = true := by
  unfold bltB
  by_cases hlt : x.data.toList < y.data.toList
  · exact decide_eq_true hlt
  · exact absurd (bytesLe_antisymm h (List.not_lt.1 hlt)) hne
theorem sort_strict {l : List ByteArray} (hn : l.Nodup) : (sortB l).Pairwise (fun x y => bltB x y = true) := by
  have h1 := sortB_sorted l
  have h2 : (sortB l).Nodup := (sortB_perm l).nodup_iff.2 hn
  exact (h1.and h2).imp fun h => blt_of_le_ne h.1 h.2
theorem filter_above : ∀ (l : List ByteArray) (g : Nat) (h : g < l.length), l.Pairwise (fun x y => bltB x y = true) → l.filter (bltB l[g]) = l.drop (g + 1)
  | x :: t, 0, _, hp => by
    rw [List.getElem_cons_zero, List.filter_cons_of_neg (by rw [blt_irrefl]; decide)]
    exact List.filter_eq_self.2 fun y hy => (List.pairwise_cons.1 hp).1 y hy
  | x :: t, g + 1, h, hp => by
    rw [List.getElem_cons_succ, List.drop_succ_cons]
    have hg : g < t.length := by simpa using h
    have hx := (List.pairwise_cons.1 hp).1 t[g] (List.getElem_mem hg)
    rw [List.filter_cons_of_neg (by rw [blt_asymm hx]; decide)]
    exact filter_above t g hg (List.pairwise_cons.1 hp).2
theorem preL_strict {U : List It} (hn : (keys U).Nodup) (pre : ByteArray) : (preL U pre).Pairwise (fun x y => bltB x y = true) := (sort_strict hn).filter _
theorem scan_part {U : List It} (hn : (keys U).Nodup) (pre last : ByteArray) (n g : Nat) (hl : (g = 0 ∧ ∀ k ∈ preL U pre, bltB last k = true) ∨ (∃ h : g - 1 < (preL U pre).length, 0 < g ∧ last = (preL U pre)[g - 1])) :
    scanL U pre last n = ((preL U pre).drop g).take n := by
  have e : scanL U pre last n = ((preL U pre).filter (bltB last)).take n := by
    unfold scanL preL
    rw [List.filter_filter]
    congr 2
    funext k
    rw [Bool.and_comm]
    rfl
  rw [e]
  rcases hl with ⟨rfl, h⟩ | ⟨h, h0, rfl⟩
  · rw [List.filter_eq_self.2 h]
    rfl
  · rw [filter_above _ _ h (preL_strict hn pre), show g - 1 + 1 = g by omega]
theorem empty_below {k : ByteArray} (h : 1 ≤ k.size) : bltB ⟨#[]⟩ k = true := by
  unfold bltB
  refine decide_eq_true ?_
  cases hk : k.data.toList with
  | nil =>
    have : k.size = 0 := by
      have := congrArg List.length hk
      simpa using this
    omega
  | cons c r => exact List.nil_lt_cons _ _
theorem FlS.scan {ks : List ByteArray} {s : CSt} (h : FlS ks s) {pre last : ByteArray} {n : Int} (hp : pre.size ≤ 60) (hl : last.size ≤ 500) (hn0 : 1 ≤ n) (hn1 : n ≤ 40) :
    doC s ⟨11, pre, last, n, 0⟩ 1 = (⟨0, ⟨#[]⟩, 0, 0, scanL s.U pre last n.toNat⟩, s) := by
  rw [doC_in ⟨by simp, by simp, (show keyOk 11 pre from hp), hl, by simp only; omega, by simp only; omega, by simp, by simp⟩ (by decide) (by decide) h.stays, did_scan rfl]
  unfold scanC
  rw [if_neg (by simp only; omega)]
theorem preL_mem {U : List It} {pre k : ByteArray} : k ∈ preL U pre ↔ k ∈ keys U ∧ preB pre k = true := by
  unfold preL
  rw [List.mem_filter, (sortB_perm (keys U)).mem_iff]
theorem preL_length (U : List It) (pre : ByteArray) : (preL U pre).length = ((keys U).filter (preB pre)).length := ((sortB_perm (keys U)).filter _).length_eq
theorem pre_count {U : List It} (hn : (keys U).Nodup) (pre k : ByteArray) : (((keys U).filter (fun u => decide (u ≠ k)) ++ [k]).filter (preB pre)).length = ((keys U).filter (preB pre)).length + (if preB pre k = true ∧ k ∉ keys U then 1 else 0) := by
  by_cases hm : k ∈ keys U
  · rw [if_neg (fun h => h.2 hm)]
    refine List.Perm.length_eq (List.Perm.filter _ ?_)
    refine (List.perm_ext_iff_of_nodup ?_ hn).2 fun u => ?_
    · rw [List.nodup_append]
      refine ⟨hn.filter _, by simp, fun a ha b hb => ?_⟩
      rw [List.mem_singleton.1 hb]
      simpa using (List.mem_filter.1 ha).2
    · simp only [List.mem_append, List.mem_filter, List.mem_singleton, decide_eq_true_eq]
      constructor
      · rintro (h | rfl)
        · exact h.1
        · exact hm
      · intro h
        by_cases e : u = k
        · exact .inr e
        · exact .inl ⟨h, e⟩
  · have e : (keys U).filter (fun u => decide (u ≠ k)) = keys U := List.filter_eq_self.2 fun u hu => decide_eq_true fun e => hm (e ▸ hu)
    rw [e, List.filter_append, List.length_append]
    congr 1
    by_cases hp : preB pre k = true
    · rw [if_pos ⟨hp, hm⟩, List.filter_cons_of_pos hp]
      rfl
    · rw [if_neg (fun h => hp h.1), List.filter_cons_of_neg hp]
      rfl
end
end Go.Proofs.YtekcjoogggoijaaGreatDoor
