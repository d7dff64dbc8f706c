/-
  The reference's cache: Used, cut, use.
-/
import Derived.Test.YtekcjoogggoijaaGreatDoorCp09
import Derived.Test.YtekcjoogggoijaaGreatDoorCp10
import Derived.Deep.Upon
import Derived.Deep.LoopGhost
import Derived.BigRegion
import Derived.BigQuiet
import Derived.Deep.RegionLaw
import Derived.Deep.RegionHeld3
import Derived.Deep.DeepCutAuto
import Derived.Test.YtekcjoogggoijaaGreatDoorCp05
set_option linter.unusedVariables false
set_option linter.unusedSimpArgs false
set_option linter.unnecessarySimpa false
namespace Go.Proofs.YtekcjoogggoijaaGreatDoor
open Go.RowKit
set_option maxRecDepth 100000

/-- append of a slice, whatever it holds: none of its own rows but those of the first one turn. -/
theorem run_append_any {P : Program} (w : World) (t ty : TypeId) (e : TypeId) (i : TypeInfo) (z : Value) (size bytes : Nat) (h1 : P.underlying t = some (.slice e)) (h2 : P.info? e = some i) (h3 : i.zero = some z) (h4 : i.size = size) (h5 : i.bytes = bytes) (h6 : z.cells.size = size) (h7 : 0 < size)
    (v : Value) (n : Nat) (olds : List Value) (hsl : Sl w e size n v olds) (x : Value) (m : Nat) (news : List Value) (hx : Rd w size m x news) (h1c : ∀ u ∈ news, u.oneCell' = true) (b1 : n + m ≤ maxLen) (b2 : (n + m) * bytes ≤ 140737488355328) :
    ∃ ao cap w', (Builtin.append_ #[t, t] ty #[v, x]).run P w = .ok (.slice ao (n + m) cap) w' ∧ Sl w' e size (n + m) (.slice ao (n + m) cap) (olds ++ news) ∧ Kept (fun k => v.ownBlock = some k) w w' ∧
      ∀ k, (Value.slice ao (n + m) cap).ownBlock = some k → v.ownBlock = some k ∨ w.heap.size ≤ k := by
  rcases Nat.eq_zero_or_pos m with h0 | h0
  · subst h0
    obtain ⟨ao, ca, rfl, hca⟩ := (Rd.of_sl hsl).shape
    obtain ⟨ax, cx, rfl, _⟩ := hx.shape
    have hn : news = [] := List.length_eq_zero_iff.1 (by rw [hx.1, Nat.zero_mul])
    subst hn
    have hrun := run_append_nothing (P := P) w t t ty e i h1 h2 ao n ca hca (.slice ax 0 cx) (by
      cases ax with
      | none => exact Src.ofNil w h1 cx
      | some ad => exact Src.ofSlice w h1 ad 0 cx [] (by simp) (fun j u h => by simp at h) (fun u h => by cases h))
    refine ⟨ao, ca, w, hrun, by rw [List.append_nil]; exact hsl, Kept.refl _ _, fun k hk => .inl hk⟩
  · obtain ⟨g, off, cx, rfl, _, _, hc⟩ := hx.base h0 (by omega)
    obtain ⟨g', off', cap, w', r1, r2, r3, r4⟩ := run_append_sl2 (P := P) w t ty e i z size bytes h1 h2 h3 h4 h5 h6 h7 v n olds hsl ⟨g, off, none⟩ m cx news hx.1 (fun j u hu => by rw [Addr.add_lit]; exact hc j u hu) h1c h0 b1 b2
    refine ⟨_, cap, w', r1, r2, r3, fun k hk => ?_⟩
    simp [Value.ownBlock] at hk
    subst hk
    rcases r4 with rfl | r4
    · exact .inl rfl
    · exact .inr r4.1

section
variable {P : Program} {ops : Array Oper} {rest : List Oper} {o : Oper} {a : Act} {Q : Exit → Act → World → Prop} {K : Act → World → Prop}
theorem wpList_append_any (w : World) (hg : o.guard = none) (s x : Operand) (t : TypeId) (hop : o.op = Op.call { callee := Callee.builtin Builtin.append, args := #[s, x], argTypes := #[t, t] })
    (e : TypeId) (i : TypeInfo) (z : Value) (size bytes : Nat) (h1 : P.underlying t = some (.slice e)) (h2 : P.info? e = some i) (h3 : i.zero = some z) (h4 : i.size = size) (h5 : i.bytes = bytes) (h6 : z.cells.size = size) (h7 : 0 < size)
    (v : Value) (n : Nat) (olds : List Value) (hs : a.eval s = v) (hsl : Sl w e size n v olds) (y : Value) (m : Nat) (news : List Value) (hy : a.eval x = y) (hx : Rd w size m y news) (h1c : ∀ u ∈ news, u.oneCell' = true) (b1 : n + m ≤ maxLen) (b2 : (n + m) * bytes ≤ 140737488355328)
    (hK : ∀ ao cap w', Sl w' e size (n + m) (.slice ao (n + m) cap) (olds ++ news) → Kept (fun k => v.ownBlock = some k) w w' → (∀ k, (Value.slice ao (n + m) cap).ownBlock = some k → v.ownBlock = some k ∨ w.heap.size ≤ k) →
      wpList P ops Q rest (a.put o.dst (.slice ao (n + m) cap)) w') : wpList P ops Q (o :: rest) a w :=
  wpList_plain hg fun _ hK' => by
    obtain ⟨ao, cap, w', hrun, r1, r2, r3⟩ := run_append_any (P := P) w t o.type e i z size bytes h1 h2 h3 h4 h5 h6 h7 v n olds hsl y m news hx h1c b1 b2
    unfold Oper.wp
    simp [execOp, hop, resolve, invoke, builtin, hs, hy, hrun, Result.andThen]
    exact hK' _ _ (hK ao cap w' r1 r2 r3)
theorem step_append_any (w : World) {E' : Prop} (hg : o.guard = none) (s x : Operand) (t : TypeId) (hop : o.op = Op.call { callee := Callee.builtin Builtin.append, args := #[s, x], argTypes := #[t, t] })
    (e : TypeId) (i : TypeInfo) (z : Value) (size bytes : Nat) (h1 : P.underlying t = some (.slice e)) (h2 : P.info? e = some i) (h3 : i.zero = some z) (h4 : i.size = size) (h5 : i.bytes = bytes) (h6 : z.cells.size = size) (h7 : 0 < size)
    (v : Value) (n : Nat) (olds : List Value) (hs : a.eval s = v) (hsl : Sl w e size n v olds) (y : Value) (m : Nat) (news : List Value) (hy : a.eval x = y) (hx : Rd w size m y news) (h1c : ∀ u ∈ news, u.oneCell' = true) (b1 : n + m ≤ maxLen) (b2 : (n + m) * bytes ≤ 140737488355328)
    (hK : ∀ ao cap w', Sl w' e size (n + m) (.slice ao (n + m) cap) (olds ++ news) → Kept (fun k => v.ownBlock = some k) w w' → (∀ k, (Value.slice ao (n + m) cap).ownBlock = some k → v.ownBlock = some k ∨ w.heap.size ≤ k) →
      K (a.put o.dst (.slice ao (n + m) cap)) w') : if Region.wanted o (yielded ops a.tmps) = true then Oper.wp P o a w K Q else E' := by
  have hw : Region.wanted o (yielded ops a.tmps) = true := by simp [Region.wanted, hg]
  rw [if_pos hw]
  obtain ⟨ao, cap, w', hrun, r1, r2, r3⟩ := run_append_any (P := P) w t o.type e i z size bytes h1 h2 h3 h4 h5 h6 h7 v n olds hsl y m news hx h1c b1 b2
  unfold Oper.wp
  simp [execOp, hop, resolve, invoke, builtin, hs, hy, hrun, Result.andThen]
  exact hK ao cap w' r1 r2 r3
theorem step_append_new (w : World) {E' : Prop} (hg : o.guard = none) (s x : Operand) (t : TypeId) (hop : o.op = Op.call { callee := Callee.builtin Builtin.append, args := #[s, x], argTypes := #[t, t] })
    (e : TypeId) (i : TypeInfo) (z : Value) (size bytes : Nat) (h1 : P.underlying t = some (.slice e)) (h2 : P.info? e = some i) (h3 : i.zero = some z) (h4 : i.size = size) (h5 : i.bytes = bytes) (h6 : z.cells.size = size) (h7 : 0 < size)
    (hs : a.eval s = .slice none 0 0) (y : Value) (m : Nat) (news : List Value) (hy : a.eval x = y) (hx : Rd w size m y news) (h1c : ∀ u ∈ news, u.oneCell' = true) (b1 : m ≤ maxLen) (b2 : m * bytes ≤ 140737488355328)
    (hK : ∀ ao cap w', Sl w' e size m (.slice ao m cap) news → Kept (fun _ => False) w w' → (∀ k, (Value.slice ao m cap).ownBlock = some k → w.heap.size ≤ k) →
      K (a.put o.dst (.slice ao m cap)) w') : if Region.wanted o (yielded ops a.tmps) = true then Oper.wp P o a w K Q else E' :=
  step_append_any w hg s x t hop e i z size bytes h1 h2 h3 h4 h5 h6 h7 (.slice none 0 0) 0 [] hs (Sl.nil _ _ _) y m news hy hx h1c (by omega) (by rw [Nat.zero_add]; exact b2) (fun ao cap w' r1 r2 r3 => by
    rw [Nat.zero_add] at r1 r3 ⊢
    exact hK ao cap w' r1 (r2.mono (fun _ _ e => by cases e)) (fun k hk => (r3 k hk).elim (fun e => by cases e) (fun e => e)))
end

/-- The reference's cache: the box at rc, its list v. -/
structure RC (w : World) (rc : Nat) (v : Value) (s : CSt) : Prop where
  blk : w.heap[rc]? = some (.cells #[.int .i64 s.bud, v, .int .i64 s.ver, .int .i64 s.gone] 47 (0, 0))
  row : Sl w 44 4 s.U.length v (flat s.U)
  out : v.ownBlock ≠ some rc
/-- A step of it: the box has turned, no old row has; its list is as it was, or new. -/
def RStep (w w' : World) (rc : Nat) (v : Value) (s' : CSt) : Prop := ∃ v', RC w' rc v' s' ∧ Kept (fun k => k = rc) w w' ∧ ∀ k, v'.ownBlock = some k → v.ownBlock = some k ∨ w.heap.size ≤ k
section
variable {w w' w2 : World} {rc : Nat} {v : Value} {s s' s2 : CSt}
theorem RC.kept {S : Nat → Prop} (h : RC w rc v s) (hk : Kept S w w') (h1 : ¬ S rc) (h2 : ∀ k, v.ownBlock = some k → ¬ S k) : RC w' rc v s :=
  ⟨(hk.block rc (lt_of_block h.blk) h1).trans h.blk, h.row.kept hk h2, h.out⟩
theorem RC.kept0 (h : RC w rc v s) (hk : Kept (fun _ => False) w w') : RC w' rc v s := h.kept hk (fun e => e) (fun _ _ e => e)
theorem RStep.refl (h : RC w rc v s) : RStep w w rc v s := ⟨v, h, Kept.refl _ _, fun k hk => .inl hk⟩
theorem RStep.of_kept (h : RC w rc v s) (hk : Kept (fun _ => False) w w') : RStep w w' rc v s := ⟨v, h.kept0 hk, hk.mono (fun _ _ e => e.elim), fun k hk => .inl hk⟩
theorem RStep.kept (h : RStep w w' rc v s) (hk : Kept (fun _ => False) w' w2) : RStep w w2 rc v s := by
  obtain ⟨v', h1, h2, h3⟩ := h
  exact ⟨v', h1.kept0 hk, h2.trans hk (fun _ _ e => e.elim), h3⟩
theorem RStep.trans {v' : Value} (k : RStep w' w2 rc v' s2) (h2 : Kept (fun k => k = rc) w w') (h3 : ∀ k, v'.ownBlock = some k → v.ownBlock = some k ∨ w.heap.size ≤ k) : RStep w w2 rc v s2 := by
  obtain ⟨v2, k1, k2, k3⟩ := k
  refine ⟨v2, k1, h2.trans k2 (fun _ _ e => e), fun x hx => ?_⟩
  rcases k3 x hx with e | e
  · exact h3 x e
  · exact .inr (Nat.le_trans h2.size e)
theorem RStep.before {w0 : World} (k : RStep w w2 rc v s2) (h : Kept (fun _ => False) w0 w) : RStep w0 w2 rc v s2 :=
  k.trans (h.mono (fun _ _ e => e.elim)) (fun _ e => .inl e)
/-- Behind a store of a list of one's own: the list is new. -/
theorem RC.store {U' : List It} {v' : Value} (h : RC w rc v s) (hk : Kept (fun _ => False) w w') (hs : Sl w' 44 4 U'.length v' (flat U')) (hn : ∀ k, v'.ownBlock = some k → w.heap.size ≤ k) :
    RStep w (w'.setCell ⟨rc, 1, none⟩ v') rc v { s with U := U' } := by
  have hb : w'.heap[rc]? = _ := (hk.block rc (lt_of_block h.blk) (fun e => e)).trans h.blk
  have hne : v'.ownBlock ≠ some rc := fun e => by have := hn rc e; have := lt_of_block h.blk; omega
  exact ⟨v', ⟨setCell_block hb 1 v', hs.setOther hne _ _, hne⟩, Kept.setCell (S := fun k => k = rc) (hk.mono (fun _ _ e => e.elim)) (p := ⟨rc, 1, none⟩) (fun _ => rfl) _, fun k hk => .inr (hn k hk)⟩
theorem RC.ver (h : RC w rc v s) (x : Int) : RC (w.setCell ⟨rc, 2, none⟩ (.int .i64 x)) rc v { s with ver := x } :=
  ⟨setCell_block h.blk 2 _, h.row.setOther h.out _ _, h.out⟩
theorem RC.gone (h : RC w rc v s) (x : Int) : RC (w.setCell ⟨rc, 3, none⟩ (.int .i64 x)) rc v { s with gone := x } :=
  ⟨setCell_block h.blk 3 _, h.row.setOther h.out _ _, h.out⟩
theorem RC.cells (h : RC w rc v s) : w.cell? ⟨rc, 0, none⟩ = some (.int .i64 s.bud) ∧ w.cell? ⟨rc, 1, none⟩ = some v ∧ w.cell? ⟨rc, 2, none⟩ = some (.int .i64 s.ver) ∧ w.cell? ⟨rc, 3, none⟩ = some (.int .i64 s.gone) :=
  ⟨cell_at h.blk 0, cell_at h.blk 1, cell_at h.blk 2, cell_at h.blk 3⟩
theorem RC.thaw (h : RC w rc v s) (o : Nat) : w.frozen? ⟨rc, o, none⟩ = false := frozen_at h.blk o
end

theorem refCost_any (x : It) (w : World) (hk : x.key.size ≤ 1000000000) (hv : x.val.size ≤ 1000000000) :
    Calls Tryz.prog 44 #[.agg #[.string x.key, .string x.val, .int .i64 x.ver, .int .i64 x.til]] w fun e w' => e = .returned (.int .i64 (costI x)) ∧ Kept (fun _ => False) w w' := by
  have hc : 16 + (x.key.size : Int) + (x.val.size : Int) = costI x := rfl
  have HC := Lib.hid hc
  clear hc
  go_enter Tryz.func44, Tryz.ntmps44
  go_wp2_with fail
  go_ret
  exact ⟨by rw [← HC.out]; rfl, (Kept.refl _ w).alloc _⟩

theorem refUntil_any (n now : Int) (w : World) (hn0 : -1000000000000 ≤ n) (hn1 : n ≤ 1000000000000) (h0 : 0 ≤ now) (h1 : now ≤ 1000000000000) :
    Calls Tryz.prog 34 #[.int .i64 now, .int .i64 n] w fun e w' => e = .returned (.int .i64 (untilC n now)) ∧ w = w' := by
  by_cases hz : n = 0
  · have hc : untilC n now = 0 := if_pos hz
    rw [hc]
    subst hz
    go_enter Tryz.func34, Tryz.ntmps34
    go_wp2_with fail
    go_ret
    exact ⟨rfl, rfl⟩
  · have hc : untilC n now = now + n := if_neg hz
    rw [hc]
    go_enter Tryz.func34, Tryz.ntmps34
    go_wp2_with fail
    go_ret
    exact ⟨by go_num, rfl⟩

set_option maxHeartbeats 800000 in
theorem refC_at {w : World} {rc : Nat} {v : Value} {s : CSt} (key : ByteArray) (h : RC w rc v s) (hn : s.U.length ≤ 1000000) (i : Nat) (hi : i ≤ s.U.length) (hno : ∀ (j : Nat) (hj : j < s.U.length), j < i → (s.U[j]).key ≠ key) (hyes : ∀ (hj : i < s.U.length), (s.U[i]).key = key) :
    Calls Tryz.prog 7 #[.pointer (some ⟨rc, 0, none⟩), .string key] w fun e w' => e = .returned (.int .i64 (if i < s.U.length then (i : Int) else -1)) ∧ w = w' := by
  have k0 := h.cells.2.1
  obtain ⟨ao, ca, rfl, hca⟩ := (Rd.of_sl h.row).shape
  have HR := Lib.hid (fun j hj => rd_it (Rd.of_sl h.row) rfl j hj)
  have HNO := Lib.hid hno
  have HY := Lib.hid hyes
  clear h hno hyes
  generalize s.U = U at *
  obtain ⟨n, hnn⟩ : ∃ n, n = U.length := ⟨_, rfl⟩
  rw [← hnn] at hn hi hca k0 ⊢
  have HN := Lib.hid hnn
  clear hnn
  go_enter Tryz.func7, Tryz.ntmps7
  go_wp2_with fail
  go_loopg [5] i (fun gk k wr => ∃ j : Nat, j + gk = i ∧ k = .int .i64 (j : Int) ∧ w = wr)
  case atStart => exact ⟨0, by omega, rfl, rfl⟩
  case round =>
    obtain ⟨j, hj, rfl, rfl⟩ := hrel
    by_cases hjn : j < n
    · obtain ⟨g, off, rfl, x0, x1⟩ := HR.out j (HN.out ▸ hjn)
      by_cases hji : j < i
      · have hne := HNO.out j (HN.out ▸ hjn) hji
        generalize U[j]'(HN.out ▸ hjn) = u at *
        have hbe : (u.key.toList == key.toList) = false := beq_false_of_ne (fun e => hne (by rw [ByteArray.toList_eq, ByteArray.toList_eq] at e; exact ByteArray.ext (Array.ext' e)))
        go_wp2_with fail
        go_roundg (gk - 1)
        case measure => omega
        case rel => exact ⟨j + 1, by omega, by go_num, rfl⟩
      · obtain rfl : j = i := by omega
        have he := HY.out (HN.out ▸ hjn)
        generalize U[j]'(HN.out ▸ hjn) = u at *
        subst he
        go_wp2_with fail
        go_ret
        first | exact ⟨rfl, rfl⟩ | exact ⟨by simp [hjn], rfl⟩
    · obtain rfl : j = n := by omega
      go_wp2_with fail
      go_ret
      obtain rfl : j = i := by omega
      first | exact ⟨rfl, rfl⟩ | exact ⟨by simp, rfl⟩
end Go.Proofs.YtekcjoogggoijaaGreatDoor
namespace Go.Proofs.YtekcjoogggoijaaGreatDoor
open Go.RowKit
set_option maxRecDepth 100000

theorem usedL_take1 (U : List It) {j : Nat} (h : j < U.length) : usedL (U.take (j + 1)) = usedL (U.take j) + costI U[j] := by
  rw [List.take_succ_eq_append_getElem h, usedL_snoc]
theorem usedL_takeLe (U : List It) (j : Nat) : usedL (U.take j) ≤ usedL U := by
  have h := usedL_append (U.take j) (U.drop j)
  rw [List.take_append_drop] at h
  have := usedL_ge (U.drop j)
  omega

set_option maxHeartbeats 1600000 in
theorem refC_used {w : World} {rc : Nat} {v : Value} {s : CSt} (h : RC w rc v s) (hu : usedL s.U ≤ 1000000000000) (hs : ∀ x ∈ s.U, x.key.size ≤ 1000000000 ∧ x.val.size ≤ 1000000000) :
    Calls Tryz.prog 20 #[.pointer (some ⟨rc, 0, none⟩)] w fun e w' => e = .returned (.int .i64 (usedL s.U)) ∧ Kept (fun _ => False) w w' := by
  have k0 := h.cells.2.1
  obtain ⟨ao, ca, rfl, hca⟩ := (Rd.of_sl h.row).shape
  have HR := Lib.hid (fun (W : World) (hk : Kept (fun _ => False) w W) j hj => rd_it ((Rd.of_sl h.row).kept hk (fun _ _ h => h)) rfl j hj)
  have HS := Lib.hid hs
  clear h hs
  generalize s.U = U at *
  obtain ⟨n, hnn⟩ : ∃ n, n = U.length := ⟨_, rfl⟩
  rw [← hnn] at hca k0
  have hg := usedL_ge U
  have hn : n ≤ 62500000000 := by omega
  have HN := Lib.hid hnn
  have HU := Lib.hid hu
  clear hnn hg hu
  go_enter Tryz.func20, Tryz.ntmps20
  go_wp2_with fail
  go_loopg [3, 4] n (fun gk t k wr => ∃ j : Nat, j + gk = n ∧ k = .int .i64 (j : Int) ∧ t = .int .i64 (usedL (U.take j)) ∧ Kept (fun _ => False) w wr)
  case atStart => exact ⟨0, by omega, rfl, rfl, Kept.refl _ _⟩
  case round =>
    obtain ⟨j, hj, rfl, rfl, hk⟩ := hrel
    have k1 := hk.cell0 k0
    by_cases hjn : j < n
    · have hjl : j < U.length := HN.out ▸ hjn
      obtain ⟨g, off, rfl, x0, x1, x2, x3⟩ := HR.out wr hk j hjl
      have hsz := HS.out _ (List.getElem_mem hjl)
      have COST := Lib.hid (fun W => refCost_any (U[j]'hjl) W hsz.1 hsz.2)
      have NX := Lib.hid (usedL_take1 U hjl)
      have h1 := usedL_takeLe U (j + 1)
      have h2 := usedL_ge (U.take j)
      have hb : -9223372036854775808 ≤ usedL (U.take j) + costI (U[j]'hjl) ∧ usedL (U.take j) + costI (U[j]'hjl) ≤ 9223372036854775807 := by
        have := NX.out
        have := HU.out
        have := costI_pos (U[j]'hjl)
        omega
      have hw1 := IntWalk.wrap64_in _ hb
      have hw2 := IntWalk.i64_in _ hb
      clear hsz h1 h2 hb
      generalize U[j]'hjl = u at *
      have HK := Lib.hid hk
      clear hk
      go_wp2_with fail
      refine (COST.out _).mono ?_
      rintro e w3 ⟨rfl, hk3⟩
      have HK3 := Lib.hid (HK.out.trans hk3 (fun _ _ h => h))
      clear hk3
      go_wp2_with fail
      go_roundg (gk - 1)
      case measure => omega
      case rel => exact ⟨j + 1, by omega, by go_num, by rw [NX.out], HK3.out⟩
    · obtain rfl : j = n := by omega
      have he : U.take j = U := List.take_of_length_le (by have := HN.out; omega)
      rw [he]
      have HK := Lib.hid hk
      clear hk he
      go_wp2_with fail
      go_ret
      exact ⟨rfl, HK.out⟩

theorem rd_new (W : World) (vs : List Value) (T : TypeId) (hl : vs.length = 4) : Rd (W.alloc (.cells vs.toArray T)) 4 1 (.slice (some ⟨W.heap.size, 0, none⟩) 1 1) vs := rd_block (heap_alloc_new _ _) (by rw [hl])

set_option maxHeartbeats 1600000 in
theorem refC_cut {w : World} {rc : Nat} {v : Value} {s : CSt} (h : RC w rc v s) (hn : s.U.length ≤ 1000000) (k : Nat) (hk : k < s.U.length) :
    Calls Tryz.prog 32 #[.pointer (some ⟨rc, 0, none⟩), .int .i64 k] w fun e w' => e = .returned (.tuple #[]) ∧ RStep w w' rc v { s with U := s.U.eraseIdx k } := by
  obtain ⟨i0, hi0, hz0, hz1, hz2⟩ := info_parts item_info
  have x1 := h.cells.2.1
  obtain ⟨g, off, cp, hv, hcp, _, _⟩ := (Rd.of_sl h.row).base (by omega) (by omega)
  have hrow := Rd.of_sl h.row
  rw [hv] at hrow x1
  have A1 := Lib.hid (show ∀ W, Kept (fun _ => False) w W → Rd W 4 k (.slice (some ⟨g, off, none⟩) k cp) (flat (s.U.take k)) from fun W hK => by
    have := (hrow.kept hK (fun _ _ h => h)).cut 0 k cp (by omega) (by omega) (by omega)
    rw [← flat_take]
    simpa using this)
  obtain ⟨bd, hbd, hA2⟩ : ∃ bd : Addr, (if cp = k + 1 then some (⟨g, off, none⟩ : Addr) else some ⟨g, off + (k + 1) * 4, none⟩) = some bd ∧ ∀ W, Kept (fun _ => False) w W → Rd W 4 (s.U.length - (k + 1)) (.slice (some bd) (s.U.length - (k + 1)) (cp - (k + 1))) (flat (s.U.drop (k + 1))) := by
    by_cases hc : cp = k + 1
    · refine ⟨_, if_pos hc, fun W hK => ?_⟩
      have h0 : s.U.length - (k + 1) = 0 := by omega
      have h1 : s.U.drop (k + 1) = [] := List.drop_of_length_le (by omega)
      rw [h0, h1]
      exact ⟨rfl, _, _, rfl, Nat.zero_le _, fun j u hu => by simp [flat] at hu⟩
    · refine ⟨_, if_neg hc, fun W hK => ?_⟩
      have := (hrow.kept hK (fun _ _ h => h)).cut (k + 1) s.U.length (cp - (k + 1)) (by omega) (by omega) (by omega)
      rw [← flat_drop]
      rwa [List.take_of_length_le (by rw [List.length_drop, flat_length]; omega)] at this
  have A2 := Lib.hid hA2
  have ST := Lib.hid (fun (w' : World) (v' : Value) hK hs hN => RC.store (U' := s.U.eraseIdx k) (w' := w') (v' := v') h hK hs hN)
  have TH := Lib.hid (fun (W : World) (hK : Kept (fun _ => False) w W) => (h.kept0 hK).thaw 1)
  have ER := Lib.hid (List.eraseIdx_eq_take_drop_succ s.U k)
  have O1 := flat_one (s.U.take k)
  have O2 := flat_one (s.U.drop (k + 1))
  have LEN := Lib.hid (show (s.U.eraseIdx k).length = k + (s.U.length - (k + 1)) by rw [List.length_eraseIdx, if_pos hk]; omega)
  clear h hrow hv hA2
  generalize s.U.eraseIdx k = U' at *
  generalize s.U.take k = La at *
  generalize s.U.drop (k + 1) = Lb at *
  generalize s.U.length = n at *
  have b1 : k ≤ maxLen := by unfold maxLen; omega
  have b2 : k * 48 ≤ 140737488355328 := by omega
  have b3 : k + (n - (k + 1)) ≤ maxLen := by unfold maxLen; omega
  have b4 : (k + (n - (k + 1))) * 48 ≤ 140737488355328 := by omega
  have c1 : (0 : Int) ≤ (k : Int) := by omega
  have c2 : (k : Int) ≤ (cp : Int) := by omega
  have hb : (-9223372036854775808 : Int) ≤ (k : Int) + 1 ∧ (k : Int) + 1 ≤ 9223372036854775807 := by omega
  have e1 : wrap64 ((k : Int) + 1) = (k : Int) + 1 := IntWalk.wrap64_in _ hb
  have e2 : IntKind.i64.wrap ((k : Int) + 1) = (k : Int) + 1 := IntWalk.i64_in _ hb
  have c3 : (k : Int) + 1 ≤ (n : Int) := by omega
  have c4 : (0 : Int) ≤ (k : Int) + 1 := by omega
  have c5 : (n : Int) ≤ (cp : Int) := by omega
  clear hb
  go_enter Tryz.func32, Tryz.ntmps32
  go_wp2_with fail
  go_region_law (first
    | (refine step_append_new _ rfl (.const (.slice none 0 0)) (.tmp 10) 45 rfl 44 i0 _ 4 48 Tryz.underlying45 hi0 hz0 hz1 hz2 rfl (by decide) (by kernel_rfl) _ k (flat La) (by kernel_rfl) (A1.out _ ((Kept.refl _ _).drew)) O1 b1 b2 ?_; intro ao1 cap1 w1 h1 h2 h3; have K1 := Lib.hid (((Kept.refl (fun _ => False) w).drew).trans h2 (fun _ _ h => h)); have S1 := Lib.hid h1; have N1 := Lib.hid h3; have x1b := K1.out.cell0 x1; clear h1 h2 h3)
    | (refine step_append_any _ rfl (.tmp 11) (.tmp 18) 45 rfl 44 i0 _ 4 48 Tryz.underlying45 hi0 hz0 hz1 hz2 rfl (by decide) (.slice ao1 k cap1) k (flat La) (by kernel_rfl) S1.out _ (n - (k + 1)) (flat Lb) (by kernel_rfl) (A2.out _ K1.out) O2 b3 b4 ?_; intro ao2 cap2 w2 h1 h2 h3; have K2 := Lib.hid (K1.out.trans h2 (fun k hk e => by have := N1.out k e; simp at this; omega)); have S2 := Lib.hid h1; have N2 := Lib.hid (show ∀ j, (Value.slice ao2 (k + (n - (k + 1))) cap2).ownBlock = some j → w.heap.size ≤ j from fun j hj => (h3 j hj).elim (fun e => by simpa using N1.out j e) (fun e => by have := K1.out.size; omega)); have f2 := TH.out _ K2.out; have x1c := K2.out.cell0 x1; clear h1 h2 h3))
  all_goals
    go_wp2_with fail
    go_end0
    refine ⟨rfl, ST.out _ _ K2.out ?_ N2.out⟩
    rw [LEN.out, ER.out, flat_append]
    simpa using S2.out
end Go.Proofs.YtekcjoogggoijaaGreatDoor
