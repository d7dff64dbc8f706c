/-
  Package cache's walks, the tenth part: behind, incr, set.
-/
import Derived.Test.YtehpafebpgndeaaGreatDoorCacheI
import Derived.Test.YtehpafebpgndeaaGreatDoorCacheJ
namespace Go.Proofs.YtehpafebpgndeaaGreatDoor
set_option linter.unusedVariables false
set_option linter.unusedSimpArgs false
set_option linter.unnecessarySimpa false
open Go.RowKit
set_option maxRecDepth 100000

/-- What a cache's numbers are between two commands. -/
structure FitC (s : CSt) : Prop where
  b0 : 0 ≤ s.bud
  b1 : s.bud ≤ 1000000
  used : usedL s.U ≤ 1000000
  v0 : 0 ≤ s.ver
  v1 : s.ver ≤ 1000000000
  g0 : 0 ≤ s.gone
  g1 : s.gone ≤ 1000000000
  keyl : ∀ x ∈ s.U, x.key.size ≤ 1000
  vall : ∀ x ∈ s.U, x.val.size ≤ 1000
  til : ∀ x ∈ s.U, 0 ≤ x.til ∧ x.til ≤ 2000000000000
section
variable {w0 wr : World} {c : Nat} {O0 : Nat → Prop} {s : CSt} {B : List (Nat × Obj)}
theorem Bes.write (h : Bes w0 c O0 s B wr) (hf : FitC s) (x : It) (hk : x.key.size ≤ 1000) (hv : x.val.size ≤ 1000) :
    Calls Tryz.prog 103 #[.pointer (some ⟨c, 0, none⟩), .agg #[.string x.key, .string x.val, .int .i64 x.ver, .int .i64 x.til]] wr fun e w' => e = .returned (.agg #[.int .i64 (writeC s x).1.errno, .string (writeC s x).1.val, .int .i64 (writeC s x).1.num, .int .i64 (writeC s x).1.ver, .slice none 0 0]) ∧ Bes w0 c O0 (writeC s x).2 B w' :=
  h.calls fun O' h' => cwrite c O' s x wr h' hf.b0 hf.b1 hf.used hk hv hf.v0 hf.v1 hf.g0 hf.g1 hf.keyl
theorem Bes.laid (h : Bes w0 c O0 s B wr) : Laid wr := by
  obtain ⟨O', h1, _⟩ := h.cs
  exact h1.laid
theorem Bes.ends {p q : Nat × Obj} (h : Bes w0 c O0 s (p :: q :: B) wr) : wr.heap[q.1]? = some q.2 ∧ Steps w0 c O0 s wr := ⟨(h.box q (.tail _ (.head _))).1, h.steps⟩
/-- A function that ends with its reply in the box. -/
theorem Bes.rets {rb : Nat} (h : Bes w0 c O0 s ((rb, zRp) :: B) wr) : ∀ (r : Rp) (kv : Value), (over5 wr rb r kv).heap[rb]? = some (rpO r kv) ∧ Steps w0 c O0 s (over5 wr rb r kv) :=
  fun r kv => ⟨(h.ret r kv).1, (h.ret r kv).2.steps⟩
end


/-- Two boxes of a function's own. -/
theorem two_boxes {w : World} {c : Nat} {O : Nat → Prop} {s : CSt} (h : CS w c O s) (o p : Obj) : Bes w c O s [(w.heap.size + 1, p), (w.heap.size, o)] ((w.alloc o).alloc p) := by
  have h1 := ((Bes.start h).alloc o).alloc p
  rwa [show (w.alloc o).heap.size = w.heap.size + 1 by simp] at h1
theorem writeC_errno (s : CSt) (x : It) : (writeC s x).1.errno = 0 ∨ (writeC s x).1.errno = 13 := by
  by_cases h : s.bud < costI x
  · rw [writeC_large h]; exact .inr rfl
  · rw [writeC_fits h]; exact .inl rfl
theorem writeC_keys (s : CSt) (x : It) : (writeC s x).1.keys = [] := by
  by_cases h : s.bud < costI x
  · rw [writeC_large h]; rfl
  · rw [writeC_fits h]

theorem nDigits_le : ∀ (k u : Nat), u < 10 ^ (k + 1) → Lib.nDigits u ≤ k + 1
  | 0, u, h => by rw [Lib.nDigits_small (by simpa using h)]; exact Nat.le_refl _
  | k + 1, u, h => by
    by_cases hu : u < 10
    · rw [Lib.nDigits_small hu]; omega
    · rw [Lib.nDigits_big hu]
      have := nDigits_le k (u / 10) (by rw [Nat.pow_succ] at h; omega)
      omega
theorem itoaB_size {n : Int} (h0 : -1000000000000 ≤ n) (h1 : n ≤ 1000000000000) : (itoaB n).size ≤ 1000 := by
  show (Lib.itoa n).length ≤ 1000
  unfold Lib.itoa
  split
  · rw [List.length_cons, Lib.decDigits_length]
    have := nDigits_le 13 n.natAbs (by omega)
    omega
  · rw [Lib.decDigits_length]
    have := nDigits_le 13 n.toNat (by omega)
    omega

/-- A reply's value. -/
def rpV (r : Rp) (kv : Value) : Value := .agg #[.int .i64 r.errno, .string r.val, .int .i64 r.num, .int .i64 r.ver, kv]

set_option maxHeartbeats 8000000 in
theorem cbehind (c : Nat) (O : Nat → Prop) (s : CSt) (x : It) (more : ByteArray) (w : World) (h : CS w c O s) (hf : FitC s) (hk : x.key.size ≤ 1000) (hv : x.val.size ≤ 1000) (hm : more.size ≤ 1000) :
    Calls Tryz.prog 108 #[.pointer (some ⟨c, 0, none⟩), .agg #[.string x.key, .string x.val, .int .i64 x.ver, .int .i64 x.til], .string more] w fun e w' => e = .returned (rpV (behindC s x more).1 (.slice none 0 0)) ∧ Steps w c O (behindC s x more).2 w' := by
  have hsz : (x.val ++ more).size = x.val.size + more.size := ByteArray.size_append
  by_cases hbig : 500 < (x.val.size : Int) + more.size
  · have HW : Hid (behindC s x more = (Rp.err 13, s)) := Lib.hid (if_pos hbig)
    have HB := Lib.hid (two_boxes h (itBox ⟨x.key, x.val ++ more, x.ver, x.til⟩) (rpO (Rp.err 13) (.slice none 0 0)))
    clear h hsz
    go_enter Tryz.func108, Tryz.ntmps108
    go_wp2_with fail
    (try simp only [Exit.inBlock, Exit.then])
    refine bodyPost_ret (results_cell_row rfl _ _ (w.heap.size + 1) _ _ _ _ rfl (HB.out.box _ (.head _)).1 Tryz.underlying36 rfl rp_size) rfl ?_
    rw [HW.out]
    exact ⟨rfl, HB.out.steps⟩
  · have HW : Hid (behindC s x more = writeC s ⟨x.key, x.val ++ more, x.ver, x.til⟩) := Lib.hid (if_neg hbig)
    have hB := two_boxes h (itBox ⟨x.key, x.val ++ more, x.ver, x.til⟩) zRp
    have WR := Lib.hid (hB.write hf ⟨x.key, x.val ++ more, x.ver, x.til⟩ hk (by simp only; omega))
    obtain ⟨rb, hrb⟩ : ∃ rb, rb = w.heap.size + 1 := ⟨_, rfl⟩
    rw [← hrb] at WR
    have HRB := Lib.hid hrb
    clear h hB hsz hrb
    go_enter Tryz.func108, Tryz.ntmps108
    go_wp2_with fail
    rw [← HRB.out]
    refine WR.out.mono ?_
    rintro e w4 ⟨rfl, hB⟩
    obtain ⟨z0, z1, z2, z3, z4, y0, y1, y2, y3, y4, y5⟩ := z_facts (hB.box (rb, zRp) (.head _)).1
    have RET := Lib.hid (hB.rets (writeC s ⟨x.key, x.val ++ more, x.ver, x.til⟩).1 (.slice none 0 0))
    clear hB
    go_wp2_with fail
    (try simp only [Exit.inBlock, Exit.then])
    refine bodyPost_ret (results_cell_row rfl _ _ rb _ _ _ _ rfl RET.out.1 Tryz.underlying36 rfl rp_size) rfl ?_
    rw [HW.out]
    exact ⟨rfl, RET.out.2⟩

set_option maxHeartbeats 8000000 in
theorem cincr (c : Nat) (O : Nat → Prop) (s : CSt) (x : It) (n : Int) (w : World) (h : CS w c O s) (hf : FitC s) (hk : x.key.size ≤ 1000) (hv : x.val.size ≤ 1000) (hn0 : -1000000000000 ≤ n) (hn1 : n ≤ 1000000000000) :
    Calls Tryz.prog 107 #[.pointer (some ⟨c, 0, none⟩), .agg #[.string x.key, .string x.val, .int .i64 x.ver, .int .i64 x.til], .int .i64 n] w fun e w' => e = .returned (rpV (incrC s x n).1 (.slice none 0 0)) ∧ Steps w c O (incrC s x n).2 w' := by
  have hB := two_boxes h (itBox x) zRp
  obtain ⟨rb, hrb⟩ : ∃ rb, rb = w.heap.size + 1 := ⟨_, rfl⟩
  obtain ⟨xb, hxb⟩ : ∃ xb, xb = w.heap.size := ⟨_, rfl⟩
  have NUM := Lib.hid (cnum x.val _ hB.laid (by omega))
  rw [← hrb, ← hxb] at hB
  have HRB := Lib.hid hrb
  have HXB := Lib.hid hxb
  have HB := Lib.hid hB
  clear h hB hrb hxb
  go_enter Tryz.func107, Tryz.ntmps107
  go_wp2_with fail
  refine NUM.out.mono ?_
  rintro e w1 ⟨rfl, hk1⟩
  rw [← HRB.out, ← HXB.out]
  have hB := HB.out.kept0 hk1
  clear hk1 NUM HB HRB HXB
  obtain ⟨z0, z1, z2, z3, z4, y0, y1, y2, y3, y4, y5⟩ := z_facts (hB.box (rb, zRp) (.head _)).1
  cases hnum : numberB x.val with
  | none =>
    have hnv : numV none = .tuple #[.int .i64 0, .bool false] := rfl
    rw [hnv]
    have HW : Hid (incrC s x n = (Rp.err 12, s)) := Lib.hid (by unfold incrC; rw [hnum])
    have RET := Lib.hid (hB.rets (Rp.err 12) (.slice none 0 0))
    have hwr : wrap64 (0 + n) = n := by unfold wrap64; omega
    clear hB hnum hnv
    go_wp2_with fail
    (try simp only [Exit.inBlock, Exit.then])
    refine bodyPost_ret (results_cell_row rfl _ _ rb _ _ _ _ rfl RET.out.1 Tryz.underlying36 rfl rp_size) rfl ?_
    rw [HW.out]
    exact ⟨rfl, RET.out.2⟩
  | some v =>
    have hnv : numV (some v) = .tuple #[.int .i64 v, .bool true] := rfl
    rw [hnv]
    have hv1 : -1000000000000 ≤ v ∧ v ≤ 1000000000000 := by
      unfold numberB at hnum
      split at hnum
      · split at hnum
        · rename_i h
          injection hnum with hnum
          subst hnum
          exact h.2
        · cases hnum
      · cases hnum
    have HWR := Lib.hid (show wrap64 (v + n) = v + n by unfold wrap64; omega)
    have hm0 : -2000000000000 ≤ v + n := by omega
    have hm1 : v + n ≤ 2000000000000 := by omega
    by_cases hlo : v + n < -1000000000000
    · have HW : Hid (incrC s x n = (Rp.err 12, s)) := Lib.hid (by unfold incrC; rw [hnum]; exact if_pos (.inl hlo))
      have RET := Lib.hid (hB.rets (Rp.err 12) (.slice none 0 0))
      clear hB hnum hnv
      have hwr := HWR.out
      go_wp2_with fail
      (try simp only [Exit.inBlock, Exit.then])
      refine bodyPost_ret (results_cell_row rfl _ _ rb _ _ _ _ rfl RET.out.1 Tryz.underlying36 rfl rp_size) rfl ?_
      rw [HW.out]
      exact ⟨rfl, RET.out.2⟩
    · by_cases hhi : 1000000000000 < v + n
      · have HW : Hid (incrC s x n = (Rp.err 12, s)) := Lib.hid (by unfold incrC; rw [hnum]; exact if_pos (.inr hhi))
        have RET := Lib.hid (hB.rets (Rp.err 12) (.slice none 0 0))
        clear hB hnum hnv
        have hwr := HWR.out
        go_wp2_with fail
        (try simp only [Exit.inBlock, Exit.then])
        refine bodyPost_ret (results_cell_row rfl _ _ rb _ _ _ _ rfl RET.out.1 Tryz.underlying36 rfl rp_size) rfl ?_
        rw [HW.out]
        exact ⟨rfl, RET.out.2⟩
      · have HW : Hid (incrC s x n = ((if (writeC s ⟨x.key, itoaB (v + n), x.ver, x.til⟩).1.errno = 0 then ⟨0, (writeC s ⟨x.key, itoaB (v + n), x.ver, x.til⟩).1.val, v + n, (writeC s ⟨x.key, itoaB (v + n), x.ver, x.til⟩).1.ver, (writeC s ⟨x.key, itoaB (v + n), x.ver, x.til⟩).1.keys⟩ else (writeC s ⟨x.key, itoaB (v + n), x.ver, x.til⟩).1), (writeC s ⟨x.key, itoaB (v + n), x.ver, x.til⟩).2)) :=
          Lib.hid (by unfold incrC; rw [hnum]; exact if_neg (fun h => h.elim hlo hhi))
        have ITO : Hid (Calls Tryz.prog 47 #[.int .i64 (v + n)] w1 fun e w' => e = .returned (.string (itoaB (v + n))) ∧ ∃ k os, w' = Go.Sort.grow (w1.drewN k) os) := Lib.hid (Tryz.strconv_Itoa (v + n) (by omega) (by omega) w1 hB.laid.tab)
        have hisz : (itoaB (v + n)).size ≤ 1000 := itoaB_size (by omega) (by omega)
        generalize itoaB (v + n) = txt at *
        have HB := Lib.hid hB
        clear hB hnum hnv z0 z1 z2 z3 z4 y0 y1 y2 y3 y4 y5
        obtain ⟨_, _, _, _, x0, x1, x2, x3, x4⟩ := it_facts (HB.out.box (xb, itBox x) (.tail _ (.head _))).1
        have hwr := HWR.out
        go_wp2_with fail
        clear hwr
        refine ITO.out.mono ?_
        rintro e w2 ⟨rfl, k, os, hw2⟩
        have hB := HB.out.kept0 (w' := w2) (hw2 ▸ ((Kept.refl (fun _ => False) w1).drewN k).trans (grow_kept _ _) (fun _ _ h => h))
        clear hw2 HB x0 x1 x2 x3 x4
        obtain ⟨v0, v1', v2, v3, x0, x1, x2, x3, x4⟩ := it_facts (hB.box (xb, itBox x) (.tail _ (.head _))).1
        have hB2 := (hB.swap.over (o' := itBox ⟨x.key, txt, x.ver, x.til⟩) (kept_at (o := 1) (.string txt) (Kept.refl _ _)) (by rw [setCell_block (hB.box (xb, itBox x) (.tail _ (.head _))).1]; rfl)).swap
        have WR := Lib.hid (hB2.write hf ⟨x.key, txt, x.ver, x.til⟩ hk hisz)
        obtain ⟨_, _, _, _, q0, q1, q2, q3, q4⟩ := it_facts (hB2.box (xb, itBox ⟨x.key, txt, x.ver, x.til⟩) (.tail _ (.head _))).1
        simp only at q0 q1 q2 q3
        clear hB hB2
        go_wp2_with fail
        refine WR.out.mono ?_
        rintro e w4 ⟨rfl, hB⟩
        have hks := writeC_keys s ⟨x.key, txt, x.ver, x.til⟩
        have her := writeC_errno s ⟨x.key, txt, x.ver, x.til⟩
        have HKS := Lib.hid hks
        have HFC := Lib.hid hf
        clear hks WR x0 x1 x2 x3 x4 q0 q1 q2 q3 q4 v0 v1' v2 v3 hf
        generalize writeC s ⟨x.key, txt, x.ver, x.til⟩ = r at *
        obtain ⟨⟨r0, r1, r2, r3, r4⟩, s'⟩ := r
        simp only at hB her HW HKS
        obtain ⟨rfl⟩ := HKS
        obtain ⟨z0, z1, z2, z3, z4, y0, y1, y2, y3, y4, y5⟩ := z_facts (hB.box (rb, zRp) (.head _)).1
        rcases her with rfl | rfl
        · have RET := Lib.hid (((hB.ret ⟨0, r1, v + n, r3, []⟩ (.slice none 0 0)).2.alloc (rpO ⟨0, r1, v + n, r3, []⟩ (.slice none 0 0))).ends)
          clear hB
          go_wp2_with fail
          (try simp only [Exit.inBlock, Exit.then])
          refine bodyPost_ret (results_cell_row rfl _ _ rb _ _ _ _ rfl RET.out.1 Tryz.underlying36 rfl rp_size) rfl ?_
          rw [HW.out]
          exact ⟨rfl, RET.out.2⟩
        · have RET := Lib.hid (((hB.ret ⟨13, r1, r2, r3, []⟩ (.slice none 0 0)).2.alloc (rpO ⟨13, r1, r2, r3, []⟩ (.slice none 0 0))).ends)
          clear hB
          go_wp2_with fail
          (try simp only [Exit.inBlock, Exit.then])
          refine bodyPost_ret (results_cell_row rfl _ _ rb _ _ _ _ rfl RET.out.1 Tryz.underlying36 rfl rp_size) rfl ?_
          rw [HW.out]
          exact ⟨rfl, RET.out.2⟩
end Go.Proofs.YtehpafebpgndeaaGreatDoor
