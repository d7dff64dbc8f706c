/-
  Package cache's walks, the eighth part: write.
-/
import Derived.Test.YtekcjoogggoijaaGreatDoorCp15
import Derived.Laws.Rows
import Derived.BigQuiet
set_option linter.unusedVariables false
set_option linter.unusedSimpArgs false
set_option linter.unnecessarySimpa false
namespace Go.Proofs.YtekcjoogggoijaaGreatDoor
open Go.RowKit
set_option maxRecDepth 100000

/-- A cache in memory, and boxes beside it. -/
structure Bes (w0 : World) (c : Nat) (O0 : Nat → Prop) (s : CSt) (B : List (Nat × Obj)) (wr : World) : Prop where
  cs : ∃ O', CS wr c O' s ∧ Grew O0 w0 O' wr ∧ ∀ p ∈ B, ¬ O' p.1
  box : ∀ p ∈ B, wr.heap[p.1]? = some p.2 ∧ w0.heap.size ≤ p.1
  gl : ∀ k, isG k → k < w0.heap.size
  nd : (B.map Prod.fst).Nodup
section
variable {w0 wr w' : World} {c : Nat} {O0 : Nat → Prop} {s s' : CSt} {B : List (Nat × Obj)}
theorem Bes.start (h : CS wr c O0 s) : Bes wr c O0 s [] wr := ⟨⟨O0, h, Grew.refl _ _, fun p hp => by cases hp⟩, (fun p hp => by cases hp), fun k hk => h.laid.lt hk, List.nodup_nil⟩
theorem Bes.lt (h : Bes w0 c O0 s B wr) {p : Nat × Obj} (hp : p ∈ B) : p.1 < wr.heap.size := lt_of_block (h.box p hp).1
theorem Bes.size (h : Bes w0 c O0 s B wr) : w0.heap.size ≤ wr.heap.size := by
  obtain ⟨O', _, h2, _⟩ := h.cs
  exact h2.1.size
theorem Bes.kept0 (h : Bes w0 c O0 s B wr) (hk : Kept (fun _ => False) wr w') : Bes w0 c O0 s B w' := by
  obtain ⟨O', h1, h2, h3⟩ := h.cs
  exact ⟨⟨O', h1.kept0 hk, h2.kept hk, h3⟩, fun p hp => ⟨(hk.block p.1 (h.lt hp) (fun h => h)).trans (h.box p hp).1, (h.box p hp).2⟩, h.gl, h.nd⟩
/-- One more box. -/
theorem Bes.alloc (h : Bes w0 c O0 s B wr) (o : Obj) : Bes w0 c O0 s ((wr.heap.size, o) :: B) (wr.alloc o) := by
  have h0 := h.kept0 ((Kept.refl _ wr).alloc o)
  obtain ⟨O', h1, h2, h3⟩ := h.cs
  obtain ⟨O'', g1, g2, g3⟩ := h0.cs
  refine ⟨⟨O', h1.kept0 ((Kept.refl _ wr).alloc o), h2.kept ((Kept.refl _ wr).alloc o), fun p hp => ?_⟩, fun p hp => ?_, h.gl, ?_⟩
  · rcases List.mem_cons.1 hp with rfl | hp
    · exact fun hO => by have := h1.lt hO; simp at this
    · exact h3 p hp
  · rcases List.mem_cons.1 hp with rfl | hp
    · exact ⟨heap_alloc_new _ _, h.size⟩
    · exact h0.box p hp
  · rw [List.map_cons, List.nodup_cons]
    refine ⟨fun hm => ?_, h.nd⟩
    obtain ⟨p, hp, e⟩ := List.mem_map.1 hm
    have := h.lt hp
    simp only at e
    omega
theorem Bes.drop {p : Nat × Obj} (h : Bes w0 c O0 s (p :: B) wr) : Bes w0 c O0 s B wr := by
  obtain ⟨O', h1, h2, h3⟩ := h.cs
  exact ⟨⟨O', h1, h2, fun q hq => h3 q (.tail _ hq)⟩, fun q hq => h.box q (.tail _ hq), h.gl, (List.nodup_cons.1 h.nd).2⟩
theorem Bes.swap {p q : Nat × Obj} (h : Bes w0 c O0 s (p :: q :: B) wr) : Bes w0 c O0 s (q :: p :: B) wr := by
  obtain ⟨O', h1, h2, h3⟩ := h.cs
  have hm : ∀ r, r ∈ q :: p :: B → r ∈ p :: q :: B := fun r hr => by
    rcases List.mem_cons.1 hr with rfl | hr
    · exact .tail _ (.head _)
    · rcases List.mem_cons.1 hr with rfl | hr
      · exact .head _
      · exact .tail _ (.tail _ hr)
  exact ⟨⟨O', h1, h2, fun r hr => h3 r (hm r hr)⟩, fun r hr => h.box r (hm r hr), h.gl, ((List.Perm.swap q p B).map Prod.fst).nodup_iff.1 h.nd⟩
/-- The first box written over. -/
theorem Bes.over {b : Nat} {o o' : Obj} (h : Bes w0 c O0 s ((b, o) :: B) wr) (hk : Kept (fun k => k = b) wr w') (hb : w'.heap[b]? = some o') : Bes w0 c O0 s ((b, o') :: B) w' := by
  obtain ⟨O', h1, h2, h3⟩ := h.cs
  have hbO := h3 (b, o) (.head _)
  have hb0 := (h.box (b, o) (.head _)).2
  have hnb : ∀ p ∈ B, p.1 ≠ b := fun p hp e => (List.nodup_cons.1 h.nd).1 (List.mem_map.2 ⟨p, hp, e⟩)
  refine ⟨⟨O', h1.kept hk (fun k hO e => hbO (e ▸ hO)) (fun k hg e => by have := h.gl k hg; simp only at hb0; omega), h2.keptT hk (fun i hi e => by simp only at hb0; omega), fun p hp => ?_⟩, fun p hp => ?_, h.gl, h.nd⟩
  · rcases List.mem_cons.1 hp with rfl | hp
    · exact hbO
    · exact h3 p (.tail _ hp)
  · rcases List.mem_cons.1 hp with rfl | hp
    · exact ⟨hb, hb0⟩
    · have h4 := h.box p (.tail _ hp)
      exact ⟨(hk.block p.1 (lt_of_block h4.1) (hnb p hp)).trans h4.1, h4.2⟩
/-- A step of the cache. -/
theorem Bes.step (h : Bes w0 c O0 s B wr) (hs : ∀ O', CS wr c O' s → Grew O0 w0 O' wr → (∀ p ∈ B, ¬ O' p.1) → ∃ O'', CS w' c O'' s' ∧ Grew O' wr O'' w') : Bes w0 c O0 s' B w' := by
  obtain ⟨O', h1, h2, h3⟩ := h.cs
  obtain ⟨O'', g1, g2⟩ := hs O' h1 h2 h3
  exact ⟨⟨O'', g1, h2.trans g2, fun p hp => (g2.other (h.box p hp).1 (h3 p hp)).2⟩, fun p hp => ⟨(g2.other (h.box p hp).1 (h3 p hp)).1, (h.box p hp).2⟩, h.gl, h.nd⟩
theorem Bes.steps (h : Bes w0 c O0 s B wr) : Steps w0 c O0 s wr := by
  obtain ⟨O', h1, h2, _⟩ := h.cs
  exact ⟨O', h1, h2⟩
theorem Bes.calls (h : Bes w0 c O0 s B wr) {f : FuncId} {args : Array Value} {r : Value} (hc : ∀ O', CS wr c O' s → Calls Tryz.prog f args wr fun e w' => e = .returned r ∧ Steps wr c O' s' w') :
    Calls Tryz.prog f args wr fun e w' => e = .returned r ∧ Bes w0 c O0 s' B w' := by
  obtain ⟨O', h1, h2, h3⟩ := h.cs
  refine (hc O' h1).mono ?_
  rintro e w' ⟨rfl, O'', g1, g2⟩
  exact ⟨rfl, ⟨O'', g1, h2.trans g2, fun p hp => (g2.other (h.box p hp).1 (h3 p hp)).2⟩, fun p hp => ⟨(g2.other (h.box p hp).1 (h3 p hp)).1, (h.box p hp).2⟩, h.gl, h.nd⟩
theorem Bes.cells (h : Bes w0 c O0 s B wr) : ∃ v, wr.cell? ⟨c, 0, none⟩ = some (.int .i64 s.bud) ∧ wr.cell? ⟨c, 2, none⟩ = some v ∧ wr.cell? ⟨c, 3, none⟩ = some (.int .i64 (usedL s.U)) ∧ wr.cell? ⟨c, 4, none⟩ = some (.int .i64 s.ver) ∧ wr.cell? ⟨c, 5, none⟩ = some (.int .i64 s.gone) ∧
    Sl wr 9 1 s.U.length v (strs (keys s.U)) ∧ c < wr.heap.size := by
  obtain ⟨O', h1, h2, h3⟩ := h.cs
  obtain ⟨v, a0, a2, a3, a4, a5, a6, a7, _⟩ := cs_cells h1
  exact ⟨v, a0, a2, a3, a4, a5, a6, a7⟩
theorem CS.frozen {O : Nat → Prop} (h : CS wr c O s) (o : Nat) : wr.frozen? ⟨c, o, none⟩ = false := by
  obtain ⟨bt, S, v, Ot, rfl, h1⟩ := h
  exact frozen_at h1.blk o
theorem Bes.frozen (h : Bes w0 c O0 s B wr) (o : Nat) : wr.frozen? ⟨c, o, none⟩ = false := by
  obtain ⟨O', h1, _⟩ := h.cs
  exact h1.frozen o
theorem Bes.setVer (h : Bes w0 c O0 s B wr) (m : Int) : Bes w0 c O0 { s with ver := m } B (wr.setCell ⟨c, 4, none⟩ (.int .i64 m)) := by
  refine h.step fun O' h1 _ _ => ?_
  obtain ⟨bt, S, v, Ot, rfl, h2⟩ := h1
  exact ⟨_, ⟨bt, S, v, Ot, rfl, (h2.setVer m).1⟩, (h2.setVer m).2⟩
theorem Bes.setGone (h : Bes w0 c O0 s B wr) (m : Int) : Bes w0 c O0 { s with gone := m } B (wr.setCell ⟨c, 5, none⟩ (.int .i64 m)) := by
  refine h.step fun O' h1 _ _ => ?_
  obtain ⟨bt, S, v, Ot, rfl, h2⟩ := h1
  exact ⟨_, ⟨bt, S, v, Ot, rfl, (h2.setGone m).1⟩, (h2.setGone m).2⟩
theorem Bes.nodup (h : Bes w0 c O0 s B wr) : (keys s.U).Nodup := by
  obtain ⟨O', h1, _⟩ := h.cs
  exact h1.nodup
end

/-- A reply's box. -/
def rpC (r : Rp) (kv : Value) : Array Value := #[.int .i64 r.errno, .string r.val, .int .i64 r.num, .int .i64 r.ver, kv]
def rpO (r : Rp) (kv : Value) : Obj := .cells (rpC r kv) 51
def zRp : Obj := .cells #[.int .i64 0, .string { data := #[] }, .int .i64 0, .int .i64 0, .slice none 0 0] 51
theorem rp_size : (Tryz.prog.info? 51).map (·.size) = some 5 := by kernel_rfl
def over5 (w : World) (b : Nat) (r : Rp) (kv : Value) : World :=
  ((((w.setCell ⟨b, 0, none⟩ (.int .i64 r.errno)).setCell ⟨b, 1, none⟩ (.string r.val)).setCell ⟨b, 2, none⟩ (.int .i64 r.num)).setCell ⟨b, 3, none⟩ (.int .i64 r.ver)).setCell ⟨b, 4, none⟩ kv
theorem over5_block {w : World} {b : Nat} (h : w.heap[b]? = some zRp) (r : Rp) (kv : Value) : (over5 w b r kv).heap[b]? = some (rpO r kv) := by
  unfold over5
  rw [setCell_block (setCell_block (setCell_block (setCell_block (setCell_block h _ _) _ _) _ _) _ _)]
  rfl
theorem over5_kept (w : World) (b : Nat) (r : Rp) (kv : Value) : Kept (fun k => k = b) w (over5 w b r kv) := kept_at _ (kept_at _ (kept_at _ (kept_at _ (kept_at _ (Kept.refl _ w)))))
/-- The end of a function whose result lies in a box. -/
theorem Bes.ret {w0 wr : World} {c : Nat} {O0 : Nat → Prop} {s : CSt} {B : List (Nat × Obj)} {rb : Nat} (h : Bes w0 c O0 s ((rb, zRp) :: B) wr) (r : Rp) (kv : Value) :
    (over5 wr rb r kv).heap[rb]? = some (rpO r kv) ∧ Bes w0 c O0 s ((rb, rpO r kv) :: B) (over5 wr rb r kv) := by
  have h1 := over5_block (h.box (rb, zRp) (.head _)).1 r kv
  exact ⟨h1, h.over (over5_kept wr rb r kv) h1⟩
end Go.Proofs.YtekcjoogggoijaaGreatDoor
namespace Go.Proofs.YtekcjoogggoijaaGreatDoor
open Go.RowKit
set_option maxRecDepth 100000

theorem z_facts {w : World} {b : Nat} (h : w.heap[b]? = some zRp) : w.frozen? ⟨b, 0, none⟩ = false ∧ w.frozen? ⟨b, 1, none⟩ = false ∧ w.frozen? ⟨b, 2, none⟩ = false ∧ w.frozen? ⟨b, 3, none⟩ = false ∧ w.frozen? ⟨b, 4, none⟩ = false ∧
    w.cell? ⟨b, 0, none⟩ = some (.int .i64 0) ∧ w.cell? ⟨b, 1, none⟩ = some (.string { data := #[] }) ∧ w.cell? ⟨b, 2, none⟩ = some (.int .i64 0) ∧ w.cell? ⟨b, 3, none⟩ = some (.int .i64 0) ∧ w.cell? ⟨b, 4, none⟩ = some (.slice none 0 0) ∧ b < w.heap.size :=
  ⟨frozen_at h 0, frozen_at h 1, frozen_at h 2, frozen_at h 3, frozen_at h 4, cell_at h 0, cell_at h 1, cell_at h 2, cell_at h 3, cell_at h 4, lt_of_block h⟩
theorem it_facts {w : World} {b : Nat} {x : It} (h : w.heap[b]? = some (itBox x)) : w.frozen? ⟨b, 0, none⟩ = false ∧ w.frozen? ⟨b, 1, none⟩ = false ∧ w.frozen? ⟨b, 2, none⟩ = false ∧ w.frozen? ⟨b, 3, none⟩ = false ∧
    w.cell? ⟨b, 0, none⟩ = some (.string x.key) ∧ w.cell? ⟨b, 1, none⟩ = some (.string x.val) ∧ w.cell? ⟨b, 2, none⟩ = some (.int .i64 x.ver) ∧ w.cell? ⟨b, 3, none⟩ = some (.int .i64 x.til) ∧ b < w.heap.size :=
  ⟨frozen_at h 0, frozen_at h 1, frozen_at h 2, frozen_at h 3, cell_at h 0, cell_at h 1, cell_at h 2, cell_at h 3, lt_of_block h⟩
theorem writeC_large {s : CSt} {x : It} (h : s.bud < costI x) : writeC s x = (Rp.err 13, s) := if_pos h
theorem writeC_fits {s : CSt} {x : It} (h : ¬ s.bud < costI x) : writeC s x = (⟨0, ⟨#[]⟩, 0, s.ver + 1, []⟩, ⟨s.bud, evict s.bud (putC s.U ⟨x.key, x.val, s.ver + 1, x.til⟩), s.ver + 1, s.gone + (((putC s.U ⟨x.key, x.val, s.ver + 1, x.til⟩).length : Int) - ((evict s.bud (putC s.U ⟨x.key, x.val, s.ver + 1, x.til⟩)).length : Int))⟩) := if_neg h
theorem delL_head {x : It} {r : List It} (h : (keys (x :: r)).Nodup) : delL (x :: r) x.key = r := by
  have hd := del_erase x.key (x :: r) 0 x h rfl rfl
  rw [hd]
  rfl

set_option maxHeartbeats 8000000 in
theorem cwrite (c : Nat) (O : Nat → Prop) (s : CSt) (x : It) (w : World) (h : CS w c O s) (hb0 : 0 ≤ s.bud) (hb1 : s.bud ≤ 1000000) (hu : usedL s.U ≤ 1000000) (hk : x.key.size ≤ 1000) (hv : x.val.size ≤ 1000)
    (hv0 : 0 ≤ s.ver) (hv1 : s.ver ≤ 1000000000) (hg0 : 0 ≤ s.gone) (hg1 : s.gone ≤ 1000000000) (hks : ∀ y ∈ s.U, y.key.size ≤ 1000) :
    Calls Tryz.prog 78 #[.pointer (some ⟨c, 0, none⟩), .agg #[.string x.key, .string x.val, .int .i64 x.ver, .int .i64 x.til]] w fun e w' => e = .returned (.agg (rpC (writeC s x).1 (.slice none 0 0))) ∧ Steps w c O (writeC s x).2 w' := by
  have B0 : Bes w c O s [((w.alloc (itBox x)).heap.size, zRp), (w.heap.size, itBox x)] ((w.alloc (itBox x)).alloc zRp) := ((Bes.start h).alloc (itBox x)).alloc zRp
  obtain ⟨xb, hxb⟩ : ∃ xb, xb = w.heap.size := ⟨_, rfl⟩
  obtain ⟨rb, hrb⟩ : ∃ rb, rb = (w.alloc (itBox x)).heap.size := ⟨_, rfl⟩
  rw [← hxb, ← hrb] at B0
  have hx1 : rb = w.heap.size + 1 := by rw [hrb]; simp
  obtain ⟨W0, hW0⟩ : ∃ W0, W0 = (w.alloc (itBox x)).alloc zRp := ⟨_, rfl⟩
  rw [← hW0] at B0
  have HB0 := Lib.hid B0
  have hcx := costI_pos x
  have hcx2 : costI x ≤ 2016 := by unfold costI; omega
  obtain ⟨vv, k0, _, _, _, _, _, kc⟩ := B0.cells
  have hbx := (B0.box (xb, itBox x) (.tail _ (.head _))).1
  have hrx := (B0.box (rb, zRp) (.head _)).1
  have HW0 := Lib.hid hW0
  have x0 := cell_at hbx 0
  have x1 := cell_at hbx 1
  have x2 := cell_at hbx 2
  have x3 := cell_at hbx 3
  simp at x0 x1 x2 x3
  have hx2 : x.key.size ≤ 1000000000 := by omega
  have hx3 : x.val.size ≤ 1000000000 := by omega
  clear h B0 hrx
  go_enter Tryz.func78, Tryz.ntmps78
  go_wp2_with fail
  rw [← hx1, ← hxb, ← show W0 = (w.alloc (.cells #[.string x.key, .string x.val, .int .i64 x.ver, .int .i64 x.til] 44)).alloc (.cells #[.int .i64 0, .string { data := #[] }, .int .i64 0, .int .i64 0, .slice none 0 0] 51) from hW0]
  clear hW0 hxb hrb hx1
  go_cut [11] (fun v wr => v = .bool (decide (s.bud < costI x)) ∧ Bes w c O s [(rb, zRp), (xb, itBox x)] wr)
  case first =>
    have K0 := Lib.hid (fun (W : World) (hkW : Kept (fun _ => False) W0 W) => hkW.cell0 k0)
    go_region_with (go_at_call 23; refine (cost_any x _ hx2 hx3).mono ?_; rintro e w3 ⟨rfl, hk3⟩; have k0' := K0.out w3 (((Kept.refl _ W0).drew).trans hk3 (fun _ _ h => h)); have FINQ := Lib.hid (HB0.out.kept0 (((Kept.refl _ W0).drew).trans hk3 (fun _ _ h => h))); clear hk3)
    all_goals
      go_wp2_with fail
      go_meet
      case rel => exact ⟨rfl, FINQ.out⟩
  case rest =>
    obtain ⟨rfl, hB⟩ := hcut
    clear k0 x0 x1 x2 x3 kc hbx HB0 HW0
    by_cases hbig : s.bud < costI x
    · have HW := Lib.hid (writeC_large hbig)
      rw [decide_eq_true hbig]
      obtain ⟨hbl, hst⟩ := hB.ret (Rp.err 13) (.slice none 0 0)
      have HST := Lib.hid hst.steps
      obtain ⟨z0, z1, z2, z3, z4, y0, y1, y2, y3, y4, y5⟩ := z_facts (hB.box (rb, zRp) (.head _)).1
      have HBL := Lib.hid hbl
      clear hB hst hbl
      go_wp2_with fail
      (try simp only [Exit.inBlock, Exit.then])
      refine bodyPost_ret (results_cell_row rfl _ _ rb _ _ _ _ rfl HBL.out Tryz.underlying51 rfl rp_size) rfl ?_
      rw [HW.out]
      exact ⟨rfl, HST.out⟩
    · have HW := Lib.hid (writeC_fits hbig)
      rw [decide_eq_false hbig]
      obtain ⟨vv, k0, _, _, k4, _, _, kc⟩ := hB.cells
      have f4 := hB.frozen 4
      have HV := Lib.hid (show wrap64 (s.ver + 1) = s.ver + 1 by unfold wrap64; omega)
      have hB1 := hB.setVer (s.ver + 1)
      have hB2 := (hB1.swap.over (o' := itBox ⟨x.key, x.val, s.ver + 1, x.til⟩) (kept_at (o := 2) (.int .i64 (s.ver + 1)) (Kept.refl _ _)) (by rw [setCell_block (hB1.box (xb, itBox x) (.tail _ (.head _))).1]; rfl)).swap
      obtain ⟨v0, v1, v2, v3, x0, x1, x2, x3, x4⟩ := it_facts (hB1.box (xb, itBox x) (.tail _ (.head _))).1
      have HB2 := Lib.hid hB2
      have hput := hB2.calls (f := 81) fun O' h => cput c O' _ ⟨x.key, x.val, s.ver + 1, x.til⟩ _ h (by simp only; omega) (by simp only; omega) (by simp only; omega)
      have PUT := Lib.hid hput
      obtain ⟨_, _, _, _, q0, q1, q2, q3, q4⟩ := it_facts (hB2.box (xb, itBox ⟨x.key, x.val, s.ver + 1, x.til⟩) (.tail _ (.head _))).1
      simp only at q0 q1 q2 q3
      clear hB hB1 hB2 hput
      go_wp2_with fail
      refine (atomic_add c 4 s.ver 1 (s.ver + 1) _ k4 f4 HV.out).mono ?_
      rintro e w1 ⟨rfl, rfl⟩
      go_wp2_with fail
      refine PUT.out.mono ?_
      rintro e w5 ⟨rfl, hB⟩
      have hul : usedL (putC s.U ⟨x.key, x.val, s.ver + 1, x.til⟩) ≤ 1100000 := by
        have h1 := usedL_snoc (delL s.U x.key) ⟨x.key, x.val, s.ver + 1, x.til⟩
        have h2 : usedL (delL s.U x.key) ≤ usedL s.U := usedL_filter_le _ _
        have h3 : costI ⟨x.key, x.val, s.ver + 1, x.til⟩ = costI x := rfl
        unfold putC
        simp only
        omega
      have hks0 : ∀ y ∈ putC s.U ⟨x.key, x.val, s.ver + 1, x.til⟩, y.key.size ≤ 1000 := by
        intro y hy
        unfold putC at hy
        rcases List.mem_append.1 hy with hy | hy
        · exact hks y (List.mem_filter.1 hy).1
        · rw [List.mem_singleton.1 hy]
          exact hk
      generalize putC s.U ⟨x.key, x.val, s.ver + 1, x.til⟩ = U0 at *
      have hge0 := usedL_ge U0
      have HB0 : Hid (Bes w c O ⟨s.bud, U0, s.ver + 1, s.gone + ((U0.length : Int) - ((U0.length : Nat) : Int))⟩ [(rb, zRp), (xb, itBox ⟨x.key, x.val, s.ver + 1, x.til⟩)] w5) := Lib.hid (by rw [Int.sub_self, Int.add_zero]; exact hB)
      clear hB PUT HB2 k0 k4 f4 kc v0 v1 v2 v3 x0 x1 x2 x3 x4 q0 q1 q2 q3 q4 HV
      go_wp2_with fail
      go_loopg [] U0.length (fun gk wr => ∃ V, V.length = gk ∧ evict s.bud V = evict s.bud U0 ∧ usedL V ≤ 1100000 ∧ (∀ y ∈ V, y.key.size ≤ 1000) ∧ gk ≤ U0.length ∧ Bes w c O ⟨s.bud, V, s.ver + 1, s.gone + ((U0.length : Int) - (gk : Int))⟩ [(rb, zRp), (xb, itBox ⟨x.key, x.val, s.ver + 1, x.til⟩)] wr)
      case atStart => exact ⟨U0, rfl, rfl, hul, hks0, Nat.le_refl _, HB0.out⟩
      case round =>
        obtain ⟨V, hVl, hVe, hVu, hVk, hgk, hB⟩ := hrel
        obtain ⟨vv, k0, k2, k3, k4, k5, hsl, kc⟩ := hB.cells
        simp only at k0 k2 k3 k4 k5 hsl
        have hge := usedL_ge V
        by_cases hov : usedL V ≤ s.bud
        · have hd : decide (s.bud < usedL V) = false := decide_eq_false (by omega)
          have HB := Lib.hid (fun (W : World) (hkW : Kept (fun _ => False) wr W) => hB.kept0 hkW)
          have FF := Lib.hid (fun (W : World) (hkW : Kept (fun _ => False) wr W) => it_facts ((hB.kept0 hkW).box (xb, itBox ⟨x.key, x.val, s.ver + 1, x.til⟩) (.tail _ (.head _))).1)
          have ZF := Lib.hid (fun (W : World) (hkW : Kept (fun _ => False) wr W) => z_facts ((hB.kept0 hkW).box (rb, zRp) (.head _)).1)
          clear hB hsl
          go_wp2_with fail
          go_quiet (fail)
          have hkq : Kept (fun _ => False) wr (wr.drewN nq) := (Kept.refl _ wr).drewN nq
          obtain ⟨_, _, _, _, q0, q1, q2, q3, q4⟩ := FF.out _ hkq
          obtain ⟨z0, z1, z2, z3, z4, y0, y1, y2, y3, y4, y5⟩ := ZF.out _ hkq
          obtain ⟨hbl, hst⟩ := (HB.out _ hkq).ret ⟨0, ⟨#[]⟩, 0, s.ver + 1, []⟩ (.slice none 0 0)
          have HBL := Lib.hid hbl
          have HST := Lib.hid hst.steps
          have hev : evict s.bud U0 = V := by rw [← hVe]; exact evict_room hov
          have HEV := Lib.hid hev
          clear hkq hbl hst hev HB FF ZF
          subst hVl
          go_wp2_with fail
          (try simp only [Exit.inBlock, Exit.then])
          refine bodyPost_ret (results_cell_row rfl _ _ rb _ _ _ _ rfl HBL.out Tryz.underlying51 rfl rp_size) rfl ?_
          rw [HW.out, HEV.out]
          exact ⟨rfl, HST.out⟩
        · have hd : decide (s.bud < usedL V) = true := decide_eq_true (by omega)
          obtain ⟨y, r, rfl⟩ : ∃ y r, V = y :: r := by
            cases V with
            | nil => exact absurd (by rw [usedL_nil]; exact hb0) hov
            | cons y r => exact ⟨y, r, rfl⟩
          have hnd := hB.nodup
          simp only at hnd
          have hrl : r.length + 1 = gk := by rw [← hVl]; rfl
          have hyk : y.key.size ≤ 1000 := hVk y (.head _)
          have hur : usedL r ≤ 1100000 := by have h1 := usedL_cons y r; have h2 := costI_pos y; omega
          have hvr : evict s.bud r = evict s.bud U0 := by rw [← hVe]; exact (evict_step hov).symm
          have HVR := Lib.hid hvr
          obtain ⟨ao, ca, rfl, hca⟩ := (Rd.of_sl hsl).shape
          have hkk : (strs (keys (y :: r)))[0]? = some (.string y.key) := rfl
          obtain ⟨g, off, rfl, x0⟩ := (Rd.of_sl hsl).at.2.2 0 _ hkk
          have hln : (y :: r).length = gk := hVl
          simp only [hln, Nat.add_zero] at k2 hca x0
          have hg1 : 0 < gk := by omega
          have HG1 := Lib.hid (show wrap64 (s.gone + ((U0.length : Int) - (gk : Int)) + 1) = s.gone + ((U0.length : Int) - (r.length : Int)) by unfold wrap64; omega)
          have DEL := Lib.hid (fun (W : World) (hkW : Kept (fun _ => False) wr W) => (hB.kept0 hkW).calls (f := 77) fun O' h => cdel c O' _ y.key _ h (by simp only; omega) (by omega))
          have HDL := Lib.hid (delL_head hnd)
          clear hB hsl hnd hkk hvr hVe
          go_wp2_with fail
          go_quiet (fail)
          have hkq : Kept (fun _ => False) wr (wr.drewN nq) := (Kept.refl _ wr).drewN nq
          have DQ := Lib.hid (DEL.out _ hkq)
          clear hkq DEL
          go_wp2_with fail
          refine DQ.out.mono ?_
          rintro e w6 ⟨rfl, hB⟩
          rw [HDL.out] at hB
          obtain ⟨vv, k0, k2, k3, k4, k5, _, kc⟩ := hB.cells
          have f5 := hB.frozen 5
          have HS := Lib.hid (hB.setGone (s.gone + ((U0.length : Int) - (r.length : Int))))
          clear hB
          go_wp2_with fail
          refine (atomic_add c 5 (s.gone + ((U0.length : Int) - (gk : Int))) 1 _ _ k5 f5 HG1.out).mono ?_
          rintro e w7 ⟨rfl, rfl⟩
          go_wp2_with fail
          go_roundg r.length
          case measure => omega
          case rel => exact ⟨r, rfl, HVR.out, hur, fun z hz => hVk z (.tail _ hz), by omega, HS.out⟩
end Go.Proofs.YtekcjoogggoijaaGreatDoor
