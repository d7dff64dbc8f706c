/-
  The reference's cache and boxes beside it; write, Caches.
-/
import Derived.Test.YtekcjoogggoijaaGreatDoorCp12
import Derived.Test.YtekcjoogggoijaaGreatDoorCp17
set_option linter.unusedVariables false
set_option linter.unusedSimpArgs false
set_option linter.unnecessarySimpa false
namespace Go.Proofs.YtekcjoogggoijaaGreatDoor
open Go.RowKit
set_option maxRecDepth 100000

/-- The reference's cache in memory, and boxes beside it. -/
structure RB (w0 : World) (rc : Nat) (v0 : Value) (s : CSt) (B : List (Nat × Obj)) (wr : World) : Prop where
  cs : ∃ v, RC wr rc v s ∧ Kept (fun k => k = rc) w0 wr ∧ (∀ k, v.ownBlock = some k → v0.ownBlock = some k ∨ w0.heap.size ≤ k) ∧ ∀ p ∈ B, v.ownBlock ≠ some p.1
  box : ∀ p ∈ B, wr.heap[p.1]? = some p.2 ∧ w0.heap.size ≤ p.1
  lt0 : rc < w0.heap.size
  nd : (B.map Prod.fst).Nodup
section
variable {w0 wr w' : World} {rc : Nat} {v0 : Value} {s s' : CSt} {B : List (Nat × Obj)}
theorem RB.start (h : RC wr rc v0 s) : RB wr rc v0 s [] wr := ⟨⟨v0, h, Kept.refl _ _, fun k hk => .inl hk, fun p hp => by cases hp⟩, (fun p hp => by cases hp), lt_of_block h.blk, List.nodup_nil⟩
theorem RB.lt (h : RB w0 rc v0 s B wr) {p : Nat × Obj} (hp : p ∈ B) : p.1 < wr.heap.size := lt_of_block (h.box p hp).1
theorem RB.size (h : RB w0 rc v0 s B wr) : w0.heap.size ≤ wr.heap.size := by
  obtain ⟨v, _, h2, _⟩ := h.cs
  exact h2.size
theorem RB.kept0 (h : RB w0 rc v0 s B wr) (hk : Kept (fun _ => False) wr w') : RB w0 rc v0 s B w' := by
  obtain ⟨v, h1, h2, h3, h4⟩ := h.cs
  exact ⟨⟨v, h1.kept0 hk, h2.trans hk (fun _ _ e => e.elim), h3, h4⟩, fun p hp => ⟨(hk.block p.1 (h.lt hp) (fun h => h)).trans (h.box p hp).1, (h.box p hp).2⟩, h.lt0, h.nd⟩
theorem RB.alloc (h : RB w0 rc v0 s B wr) (o : Obj) : RB w0 rc v0 s ((wr.heap.size, o) :: B) (wr.alloc o) := by
  have h0 := h.kept0 ((Kept.refl _ wr).alloc o)
  obtain ⟨v, h1, h2, h3, h4⟩ := h.cs
  refine ⟨⟨v, h1.kept0 ((Kept.refl _ wr).alloc o), h2.trans ((Kept.refl (fun _ => False) wr).alloc o) (fun _ _ e => e.elim), h3, fun p hp => ?_⟩, fun p hp => ?_, h.lt0, ?_⟩
  · rcases List.mem_cons.1 hp with rfl | hp
    · exact fun e => by have := h1.row.lt e; simp at this
    · exact h4 p hp
  · rcases List.mem_cons.1 hp with rfl | hp
    · exact ⟨heap_alloc_new _ _, h.size⟩
    · exact h0.box p hp
  · rw [List.map_cons, List.nodup_cons]
    refine ⟨fun hm => ?_, h.nd⟩
    obtain ⟨p, hp, e⟩ := List.mem_map.1 hm
    have := h.lt hp
    simp only at e
    omega
theorem RB.drop {p : Nat × Obj} (h : RB w0 rc v0 s (p :: B) wr) : RB w0 rc v0 s B wr := by
  obtain ⟨v, h1, h2, h3, h4⟩ := h.cs
  exact ⟨⟨v, h1, h2, h3, fun q hq => h4 q (.tail _ hq)⟩, fun q hq => h.box q (.tail _ hq), h.lt0, (List.nodup_cons.1 h.nd).2⟩
theorem RB.perm {B' : List (Nat × Obj)} (h : RB w0 rc v0 s B wr) (hp : B'.Perm B) : RB w0 rc v0 s B' wr := by
  obtain ⟨v, h1, h2, h3, h4⟩ := h.cs
  exact ⟨⟨v, h1, h2, h3, fun q hq => h4 q (hp.mem_iff.1 hq)⟩, fun q hq => h.box q (hp.mem_iff.1 hq), h.lt0, (hp.map Prod.fst).nodup_iff.2 h.nd⟩
theorem RB.swap {p q : Nat × Obj} (h : RB w0 rc v0 s (p :: q :: B) wr) : RB w0 rc v0 s (q :: p :: B) wr := h.perm (List.Perm.swap _ _ _)
/-- The first box written over. -/
theorem RB.over {b : Nat} {o o' : Obj} (h : RB w0 rc v0 s ((b, o) :: B) wr) (hk : Kept (fun k => k = b) wr w') (hb : w'.heap[b]? = some o') : RB w0 rc v0 s ((b, o') :: B) w' := by
  obtain ⟨v, h1, h2, h3, h4⟩ := h.cs
  have hbv := h4 (b, o) (.head _)
  have hb0 := (h.box (b, o) (.head _)).2
  have hlt := h.lt0
  have hnb : ∀ p ∈ B, p.1 ≠ b := fun p hp e => (List.nodup_cons.1 h.nd).1 (List.mem_map.2 ⟨p, hp, e⟩)
  refine ⟨⟨v, h1.kept hk (fun e => by simp only at hb0; omega) (fun k hv e => hbv (by rw [hv, e])), h2.trans hk (fun i hi e => by simp only at hb0; omega), h3, fun p hp => ?_⟩, fun p hp => ?_, h.lt0, h.nd⟩
  · rcases List.mem_cons.1 hp with rfl | hp
    · exact hbv
    · exact h4 p (.tail _ hp)
  · rcases List.mem_cons.1 hp with rfl | hp
    · exact ⟨hb, hb0⟩
    · have h5 := h.box p (.tail _ hp)
      exact ⟨(hk.block p.1 (lt_of_block h5.1) (hnb p hp)).trans h5.1, h5.2⟩
/-- A step of the cache. -/
theorem RB.step (h : RB w0 rc v0 s B wr) (hs : ∀ v, RC wr rc v s → RStep wr w' rc v s') : RB w0 rc v0 s' B w' := by
  obtain ⟨v, h1, h2, h3, h4⟩ := h.cs
  obtain ⟨v', g1, g2, g3⟩ := hs v h1
  have hlt := h.lt0
  refine ⟨⟨v', g1, h2.trans g2 (fun _ _ e => e), fun k hk => ?_, fun p hp e => ?_⟩, fun p hp => ?_, h.lt0, h.nd⟩
  · rcases g3 k hk with e | e
    · exact h3 k e
    · exact .inr (Nat.le_trans h2.size e)
  · rcases g3 p.1 e with e | e
    · exact h4 p hp e
    · have := h.lt hp; omega
  · have h5 := h.box p hp
    exact ⟨(g2.block p.1 (h.lt hp) (fun e => by omega)).trans h5.1, h5.2⟩
theorem RB.calls (h : RB w0 rc v0 s B wr) {f : FuncId} {args : Array Value} {r : Value} (hc : ∀ v, RC wr rc v s → Calls Tryz.prog f args wr fun e w' => e = .returned r ∧ RStep wr w' rc v s') :
    Calls Tryz.prog f args wr fun e w' => e = .returned r ∧ RB w0 rc v0 s' B w' := by
  obtain ⟨v, h1, h2, h3, h4⟩ := h.cs
  refine (hc v h1).mono ?_
  rintro e w' ⟨rfl, hst⟩
  refine ⟨rfl, h.step fun v2 hv2 => ?_⟩
  have e1 := h1.cells.2.1
  have e2 := hv2.cells.2.1
  rw [e1] at e2
  injection e2 with e2
  subst e2
  exact hst
theorem RB.reads (h : RB w0 rc v0 s B wr) {f : FuncId} {args : Array Value} {r : Value} (hc : ∀ v, RC wr rc v s → Calls Tryz.prog f args wr fun e w' => e = .returned r ∧ Kept (fun _ => False) wr w') :
    Calls Tryz.prog f args wr fun e w' => e = .returned r ∧ RB w0 rc v0 s B w' := by
  obtain ⟨v, h1, h2, h3, h4⟩ := h.cs
  refine (hc v h1).mono ?_
  rintro e w' ⟨rfl, hk⟩
  exact ⟨rfl, h.kept0 hk⟩
theorem RB.cells (h : RB w0 rc v0 s B wr) : ∃ v, wr.cell? ⟨rc, 0, none⟩ = some (.int .i64 s.bud) ∧ wr.cell? ⟨rc, 1, none⟩ = some v ∧ wr.cell? ⟨rc, 2, none⟩ = some (.int .i64 s.ver) ∧ wr.cell? ⟨rc, 3, none⟩ = some (.int .i64 s.gone) ∧ Sl wr 44 4 s.U.length v (flat s.U) ∧ rc < wr.heap.size := by
  obtain ⟨v, h1, _⟩ := h.cs
  exact ⟨v, h1.cells.1, h1.cells.2.1, h1.cells.2.2.1, h1.cells.2.2.2, h1.row, lt_of_block h1.blk⟩
theorem RB.frozen (h : RB w0 rc v0 s B wr) (o : Nat) : wr.frozen? ⟨rc, o, none⟩ = false := by
  obtain ⟨v, h1, _⟩ := h.cs
  exact h1.thaw o
theorem RB.setVer (h : RB w0 rc v0 s B wr) (m : Int) : RB w0 rc v0 { s with ver := m } B (wr.setCell ⟨rc, 2, none⟩ (.int .i64 m)) :=
  h.step fun v h1 => ⟨v, h1.ver m, Kept.setCell (S := fun k => k = rc) (Kept.refl _ _) (p := ⟨rc, 2, none⟩) (fun _ => rfl) _, fun k hk => .inl hk⟩
theorem RB.setGone (h : RB w0 rc v0 s B wr) (m : Int) : RB w0 rc v0 { s with gone := m } B (wr.setCell ⟨rc, 3, none⟩ (.int .i64 m)) :=
  h.step fun v h1 => ⟨v, h1.gone m, Kept.setCell (S := fun k => k = rc) (Kept.refl _ _) (p := ⟨rc, 3, none⟩) (fun _ => rfl) _, fun k hk => .inl hk⟩
theorem RB.flush (h : RB w0 rc v0 s B wr) : RB w0 rc v0 { s with U := [] } B (wr.setCell ⟨rc, 1, none⟩ (.slice none 0 0)) :=
  h.step fun v h1 => h1.store (Kept.refl _ _) (Sl.nil _ _ _) (fun k hk => by cases hk)
theorem RB.rstep (h : RB w0 rc v0 s B wr) : RStep w0 wr rc v0 s := by
  obtain ⟨v, h1, h2, h3, _⟩ := h.cs
  exact ⟨v, h1, h2, h3⟩
theorem RB.ret {rb : Nat} (h : RB w0 rc v0 s ((rb, zRp) :: B) wr) (r : Rp) (kv : Value) :
    (over5 wr rb r kv).heap[rb]? = some (rpO r kv) ∧ RB w0 rc v0 s ((rb, rpO r kv) :: B) (over5 wr rb r kv) := by
  have h1 := over5_block (h.box (rb, zRp) (.head _)).1 r kv
  exact ⟨h1, h.over (over5_kept wr rb r kv) h1⟩
end

theorem eraseHead (x : It) (r : List It) : (x :: r).eraseIdx 0 = r := rfl

set_option maxHeartbeats 8000000 in
theorem refC_write {rc : Nat} {v : Value} (s : CSt) (x : It) (w : World) (h : RC w rc v s) (hf : FitC s) (hnd : (keys s.U).Nodup) (hk : x.key.size ≤ 1000) (hv : x.val.size ≤ 1000) :
    Calls Tryz.prog 33 #[.pointer (some ⟨rc, 0, none⟩), .agg #[.string x.key, .string x.val, .int .i64 x.ver, .int .i64 x.til]] w fun e w' => e = .returned (.agg (rpC (writeC s x).1 (.slice none 0 0))) ∧ RStep w w' rc v (writeC s x).2 := by
  have B0 : RB w rc v s [((w.alloc (itBox x)).heap.size, zRp), (w.heap.size, itBox x)] ((w.alloc (itBox x)).alloc zRp) := ((RB.start h).alloc (itBox x)).alloc zRp
  obtain ⟨xb, hxb⟩ : ∃ xb, xb = w.heap.size := ⟨_, rfl⟩
  obtain ⟨rb, hrb⟩ : ∃ rb, rb = (w.alloc (itBox x)).heap.size := ⟨_, rfl⟩
  rw [← hxb, ← hrb] at B0
  have hx1 : rb = w.heap.size + 1 := by rw [hrb]; simp
  obtain ⟨W0, hW0⟩ : ∃ W0, W0 = (w.alloc (itBox x)).alloc zRp := ⟨_, rfl⟩
  rw [← hW0] at B0
  have HB0 := Lib.hid B0
  have hcx := costI_pos x
  have hcx2 : costI x ≤ 2016 := by unfold costI; omega
  obtain ⟨vv, k0, _, _, _, _, kc⟩ := B0.cells
  have hbx := (B0.box (xb, itBox x) (.tail _ (.head _))).1
  have hrx := (B0.box (rb, zRp) (.head _)).1
  have HW0 := Lib.hid hW0
  have x0 := cell_at hbx 0
  have x1 := cell_at hbx 1
  have x2 := cell_at hbx 2
  have x3 := cell_at hbx 3
  simp at x0 x1 x2 x3
  have hx2 : x.key.size ≤ 1000000000 := by omega
  have hx3 : x.val.size ≤ 1000000000 := by omega
  have hb0 := hf.b0
  have hb1 := hf.b1
  have hu := hf.used
  have hv0 := hf.v0
  have hv1 := hf.v1
  have hg0 := hf.g0
  have hg1 := hf.g1
  have HKS := Lib.hid (show ∀ y ∈ s.U, y.key.size ≤ 1000 ∧ y.val.size ≤ 1000 from fun y hy => ⟨hf.keyl y hy, hf.vall y hy⟩)
  have HND := Lib.hid hnd
  clear h B0 hrx hf hnd
  go_enter Tryz.func33, Tryz.ntmps33
  go_wp2_with fail
  rw [← hx1, ← hxb, ← show W0 = (w.alloc (.cells #[.string x.key, .string x.val, .int .i64 x.ver, .int .i64 x.til] 44)).alloc (.cells #[.int .i64 0, .string { data := #[] }, .int .i64 0, .int .i64 0, .slice none 0 0] 51) from hW0]
  clear hW0 hxb hrb hx1
  go_cut [11] (fun v' wr => v' = .bool (decide (s.bud < costI x)) ∧ RB w rc v s [(rb, zRp), (xb, itBox x)] wr)
  case first =>
    have K0 := Lib.hid (fun (W : World) (hkW : Kept (fun _ => False) W0 W) => hkW.cell0 k0)
    go_region_with (go_at_call 44; refine (refCost_any x _ hx2 hx3).mono ?_; rintro e w3 ⟨rfl, hk3⟩; have k0' := K0.out w3 (((Kept.refl _ W0).drew).trans hk3 (fun _ _ h => h)); have FINQ := Lib.hid (HB0.out.kept0 (((Kept.refl _ W0).drew).trans hk3 (fun _ _ h => h))); clear hk3)
    all_goals
      go_wp2_with fail
      go_meet
      case rel => exact ⟨rfl, FINQ.out⟩
  case rest =>
    obtain ⟨rfl, hB⟩ := hcut
    clear k0 x0 x1 x2 x3 kc hbx HB0 HW0
    by_cases hbig : s.bud < costI x
    · have HW := Lib.hid (writeC_large hbig)
      rw [decide_eq_true hbig]
      obtain ⟨hbl, hst⟩ := hB.ret (Rp.err 13) (.slice none 0 0)
      have HST := Lib.hid hst.rstep
      obtain ⟨z0, z1, z2, z3, z4, y0, y1, y2, y3, y4, y5⟩ := z_facts (hB.box (rb, zRp) (.head _)).1
      have HBL := Lib.hid hbl
      clear hB hst hbl
      go_wp2_with fail
      (try simp only [Exit.inBlock, Exit.then])
      refine bodyPost_ret (results_cell_row rfl _ _ rb _ _ _ _ rfl HBL.out Tryz.underlying51 rfl rp_size) rfl ?_
      rw [HW.out]
      exact ⟨rfl, HST.out⟩
    · have HW := Lib.hid (writeC_fits hbig)
      rw [decide_eq_false hbig]
      obtain ⟨vv, k0, _, k4, _, _, kc⟩ := hB.cells
      have f4 := hB.frozen 2
      have hbv : (-9223372036854775808 : Int) ≤ s.ver + 1 ∧ s.ver + 1 ≤ 9223372036854775807 := by omega
      have HV1 := IntWalk.wrap64_in _ hbv
      have HV2 := IntWalk.i64_in _ hbv
      have hB1 := hB.setVer (s.ver + 1)
      have k5 := hB1.cells
      obtain ⟨_, _, _, k4b, _, _, _⟩ := k5
      simp only at k4b
      have hB2 := (hB1.swap.over (o' := itBox ⟨x.key, x.val, s.ver + 1, x.til⟩) (kept_at (o := 2) (.int .i64 (s.ver + 1)) (Kept.refl _ _)) (by rw [setCell_block (hB1.box (xb, itBox x) (.tail _ (.head _))).1]; rfl)).swap
      obtain ⟨v0, v1, v2, v3, x0, x1, x2, x3, x4⟩ := it_facts (hB.box (xb, itBox x) (.tail _ (.head _))).1
      obtain ⟨v0b, v1b, v2b, v3b, x0b, x1b, x2b, x3b, x4b⟩ := it_facts (hB1.box (xb, itBox x) (.tail _ (.head _))).1
      have HB2 := Lib.hid hB2
      have hlen : s.U.length ≤ 62500 := by have := usedL_ge s.U; omega
      have USE := Lib.hid (hB2.calls (f := 35) fun v' h => refC_use ⟨x.key, x.val, s.ver + 1, x.til⟩ h (by simp only; omega) HND.out)
      obtain ⟨_, _, _, _, q0, q1, q2, q3, q4⟩ := it_facts (hB2.box (xb, itBox ⟨x.key, x.val, s.ver + 1, x.til⟩) (.tail _ (.head _))).1
      simp only at q0 q1 q2 q3
      clear hB hB1 hB2 hbv hlen
      go_wp2_with fail
      refine USE.out.mono ?_
      rintro e w5 ⟨rfl, hB⟩
      have hul : usedL (putC s.U ⟨x.key, x.val, s.ver + 1, x.til⟩) ≤ 1100000 := by
        have h1 := usedL_snoc (delL s.U x.key) ⟨x.key, x.val, s.ver + 1, x.til⟩
        have h2 : usedL (delL s.U x.key) ≤ usedL s.U := usedL_filter_le _ _
        have h3 : costI ⟨x.key, x.val, s.ver + 1, x.til⟩ = costI x := rfl
        unfold putC
        simp only
        omega
      have hks0 : ∀ y ∈ putC s.U ⟨x.key, x.val, s.ver + 1, x.til⟩, y.key.size ≤ 1000000000 ∧ y.val.size ≤ 1000000000 := by
        intro y hy
        unfold putC at hy
        rcases List.mem_append.1 hy with hy | hy
        · have := HKS.out y (List.mem_filter.1 hy).1
          omega
        · rw [List.mem_singleton.1 hy]
          exact ⟨hx2, hx3⟩
      generalize putC s.U ⟨x.key, x.val, s.ver + 1, x.til⟩ = U0 at *
      have hge0 := usedL_ge U0
      have HB0 : Hid (RB w rc v ⟨s.bud, U0, s.ver + 1, s.gone + ((U0.length : Int) - ((U0.length : Nat) : Int))⟩ [(rb, zRp), (xb, itBox ⟨x.key, x.val, s.ver + 1, x.til⟩)] w5) := Lib.hid (by rw [Int.sub_self, Int.add_zero]; exact hB)
      clear hB USE HB2 k0 k4 k4b f4 kc v0 v1 v2 v3 x0 x1 x2 x3 x4 v0b v1b v2b v3b x0b x1b x2b x3b x4b q0 q1 q2 q3 q4 HV1 HV2
      go_wp2_with fail
      go_loopg [] U0.length (fun gk wr => ∃ V, V.length = gk ∧ evict s.bud V = evict s.bud U0 ∧ usedL V ≤ 1100000 ∧ (∀ y ∈ V, y.key.size ≤ 1000000000 ∧ y.val.size ≤ 1000000000) ∧ gk ≤ U0.length ∧ RB w rc v ⟨s.bud, V, s.ver + 1, s.gone + ((U0.length : Int) - (gk : Int))⟩ [(rb, zRp), (xb, itBox ⟨x.key, x.val, s.ver + 1, x.til⟩)] wr)
      case atStart => exact ⟨U0, rfl, rfl, hul, hks0, Nat.le_refl _, HB0.out⟩
      case round =>
        obtain ⟨V, hVl, hVe, hVu, hVk, hgk, hB⟩ := hrel
        have HB := Lib.hid hB
        have hB1 := hB.kept0 ((Kept.refl _ wr).drew)
        have USED := Lib.hid (hB1.reads (f := 20) fun v' h => refC_used h (by simp only; omega) hVk)
        obtain ⟨vv, k0, _, _, _, _, kc⟩ := hB1.cells
        simp only at k0 USED
        have hge := usedL_ge V
        have HVL := Lib.hid hVl
        have HVE := Lib.hid hVe
        have HVK := Lib.hid hVk
        clear hB hB1 kc hVl hVe hVk HB0
        by_cases hov : usedL V ≤ s.bud
        · have hd : decide (s.bud < usedL V) = false := decide_eq_false (by omega)
          go_wp2_with fail
          go_region_held3 (fun w' => w'.cell? ⟨rc, 0, none⟩ = some (.int .i64 s.bud)) (go_keep)
            (first | (go_at_call 20; refine USED.out.mono ?_; rintro e w6 ⟨rfl, hB⟩; have HB6 := Lib.hid hB; have k0 := hB.cells.choose_spec.1; clear hB))
          all_goals
            obtain ⟨_, _, _, _, q0, q1, q2, q3, q4⟩ := it_facts (HB6.out.box (xb, itBox ⟨x.key, x.val, s.ver + 1, x.til⟩) (.tail _ (.head _))).1
            obtain ⟨z0, z1, z2, z3, z4, y0, y1, y2, y3, y4, y5⟩ := z_facts (HB6.out.box (rb, zRp) (.head _)).1
            obtain ⟨hbl, hst⟩ := HB6.out.ret ⟨0, ⟨#[]⟩, 0, s.ver + 1, []⟩ (.slice none 0 0)
            have HBL := Lib.hid hbl
            have HST := Lib.hid hst.rstep
            have hev : evict s.bud U0 = V := by rw [← HVE.out]; exact evict_room hov
            have HEV := Lib.hid hev
            clear hbl hst hev
            go_wp2_with fail
            (try simp only [Exit.inBlock, Exit.then])
            refine bodyPost_ret (results_cell_row rfl _ _ rb _ _ _ _ rfl HBL.out Tryz.underlying51 rfl rp_size) rfl ?_
            rw [HW.out, HEV.out]
            have := HST.out
            rw [← HVL.out] at this
            exact ⟨rfl, this⟩
        · have hd : decide (s.bud < usedL V) = true := decide_eq_true (by omega)
          obtain ⟨y, r, rfl⟩ : ∃ y r, V = y :: r := by
            cases V with
            | nil => exact absurd (by rw [usedL_nil]; exact hb0) hov
            | cons y r => exact ⟨y, r, rfl⟩
          have hrl : r.length + 1 = gk := by rw [← HVL.out]; rfl
          have hur : usedL r ≤ 1100000 := by have h1 := usedL_cons y r; have h2 := costI_pos y; omega
          have HVR := Lib.hid (show evict s.bud r = evict s.bud U0 by rw [← HVE.out]; exact (evict_step hov).symm)
          have hgb : (-9223372036854775808 : Int) ≤ s.gone + ((U0.length : Int) - (gk : Int)) + 1 ∧ s.gone + ((U0.length : Int) - (gk : Int)) + 1 ≤ 9223372036854775807 := by omega
          have hg2 : s.gone + ((U0.length : Int) - (gk : Int)) + 1 = s.gone + ((U0.length : Int) - (r.length : Int)) := by omega
          have hw1 := (IntWalk.wrap64_in _ hgb).trans hg2
          have hw2 := (IntWalk.i64_in _ hgb).trans hg2
          have HRL := Lib.hid hrl
          have HVU := Lib.hid hVu
          have HGE := Lib.hid hge
          clear hgb hg2 hrl hVu hge
          go_wp2_with fail
          go_region_held3 (fun w' => w'.cell? ⟨rc, 0, none⟩ = some (.int .i64 s.bud)) (go_keep)
            (first | (go_at_call 20; refine USED.out.mono ?_; rintro e w6 ⟨rfl, hB⟩; have HB6 := Lib.hid hB; have k0 := hB.cells.choose_spec.1; clear hB))
          all_goals
            have CUT := Lib.hid (HB6.out.calls (f := 32) fun v' h => refC_cut h (by have := HVL.out; have := HGE.out; have := HVU.out; simp only; omega) 0 (by simp))
            simp only [eraseHead, Int.ofNat_eq_natCast, Int.natCast_zero] at CUT
            go_wp2_with fail
            refine CUT.out.mono ?_
            rintro e w7 ⟨rfl, hB⟩
            obtain ⟨vv, _, _, _, k3, _, kc⟩ := hB.cells
            have f3 := hB.frozen 3
            simp only at k3
            have HB8 := Lib.hid (hB.setGone (s.gone + ((U0.length : Int) - (r.length : Int))))
            clear hB
            go_wp2_with fail
            go_roundg r.length
            case measure => have := HRL.out; omega
            case rel => exact ⟨r, rfl, HVR.out, hur, fun z hz => HVK.out z (.tail _ hz), by have := HRL.out; omega, HB8.out⟩
end Go.Proofs.YtekcjoogggoijaaGreatDoor
