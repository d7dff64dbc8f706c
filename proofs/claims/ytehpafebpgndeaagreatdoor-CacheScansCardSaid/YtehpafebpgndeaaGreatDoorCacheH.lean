/-
  Package cache's walks, the seventh part: a cache and boxes beside it; write.
-/
import Derived.Test.YtehpafebpgndeaaGreatDoorCacheG
import Derived.Laws.Rows
import Derived.BigQuiet
namespace Go.Proofs.YtehpafebpgndeaaGreatDoor
set_option linter.unusedVariables false
set_option linter.unusedSimpArgs false
set_option linter.unnecessarySimpa false
open Go.RowKit
set_option maxRecDepth 100000

/-- A cache in memory, and boxes beside it. -/
structure Bes (w0 : World) (c : Nat) (O0 : Nat → Prop) (s : CSt) (B : List (Nat × Obj)) (wr : World) : Prop where
  cs : ∃ O', CS wr c O' s ∧ Grew O0 w0 O' wr ∧ ∀ p ∈ B, ¬ O' p.1
  box : ∀ p ∈ B, wr.heap[p.1]? = some p.2 ∧ w0.heap.size ≤ p.1
  gl : ∀ k, isG k → k < w0.heap.size
  nd : (B.map Prod.fst).Nodup
section
variable {w0 wr w' : World} {c : Nat} {O0 : Nat → Prop} {s s' : CSt} {B : List (Nat × Obj)}
theorem Bes.start (h : CS wr c O0 s) : Bes wr c O0 s [] wr := ⟨⟨O0, h, Grew.refl _ _, fun p hp => by cases hp⟩, (fun p hp => by cases hp), fun k hk => h.laid.lt hk, List.nodup_nil⟩
theorem Bes.lt (h : Bes w0 c O0 s B wr) {p : Nat × Obj} (hp : p ∈ B) : p.1 < wr.heap.size := lt_of_block (h.box p hp).1
theorem Bes.size (h : Bes w0 c O0 s B wr) : w0.heap.size ≤ wr.heap.size := by
  obtain ⟨O', _, h2, _⟩ := h.cs
  exact h2.1.size
theorem Bes.kept0 (h : Bes w0 c O0 s B wr) (hk : Kept (fun _ => False) wr w') : Bes w0 c O0 s B w' := by
  obtain ⟨O', h1, h2, h3⟩ := h.cs
  exact ⟨⟨O', h1.kept0 hk, h2.kept hk, h3⟩, fun p hp => ⟨(hk.block p.1 (h.lt hp) (fun h => h)).trans (h.box p hp).1, (h.box p hp).2⟩, h.gl, h.nd⟩
/-- One more box. -/
theorem Bes.alloc (h : Bes w0 c O0 s B wr) (o : Obj) : Bes w0 c O0 s ((wr.heap.size, o) :: B) (wr.alloc o) := by
  have h0 := h.kept0 ((Kept.refl _ wr).alloc o)
  obtain ⟨O', h1, h2, h3⟩ := h.cs
  obtain ⟨O'', g1, g2, g3⟩ := h0.cs
  refine ⟨⟨O', h1.kept0 ((Kept.refl _ wr).alloc o), h2.kept ((Kept.refl _ wr).alloc o), fun p hp => ?_⟩, fun p hp => ?_, h.gl, ?_⟩
  · rcases List.mem_cons.1 hp with rfl | hp
    · exact fun hO => by have := h1.lt hO; simp at this
    · exact h3 p hp
  · rcases List.mem_cons.1 hp with rfl | hp
    · exact ⟨heap_alloc_new _ _, h.size⟩
    · exact h0.box p hp
  · rw [List.map_cons, List.nodup_cons]
    refine ⟨fun hm => ?_, h.nd⟩
    obtain ⟨p, hp, e⟩ := List.mem_map.1 hm
    have := h.lt hp
    simp only at e
    omega
theorem Bes.drop {p : Nat × Obj} (h : Bes w0 c O0 s (p :: B) wr) : Bes w0 c O0 s B wr := by
  obtain ⟨O', h1, h2, h3⟩ := h.cs
  exact ⟨⟨O', h1, h2, fun q hq => h3 q (.tail _ hq)⟩, fun q hq => h.box q (.tail _ hq), h.gl, (List.nodup_cons.1 h.nd).2⟩
theorem Bes.swap {p q : Nat × Obj} (h : Bes w0 c O0 s (p :: q :: B) wr) : Bes w0 c O0 s (q :: p :: B) wr := by
  obtain ⟨O', h1, h2, h3⟩ := h.cs
  have hm : ∀ r, r ∈ q :: p :: B → r ∈ p :: q :: B := fun r hr => by
    rcases List.mem_cons.1 hr with rfl | hr
    · exact .tail _ (.head _)
    · rcases List.mem_cons.1 hr with rfl | hr
      · exact .head _
      · exact .tail _ (.tail _ hr)
  exact ⟨⟨O', h1, h2, fun r hr => h3 r (hm r hr)⟩, fun r hr => h.box r (hm r hr), h.gl, ((List.Perm.swap q p B).map Prod.fst).nodup_iff.1 h.nd⟩
/-- The first box written over. -/
theorem Bes.over {b : Nat} {o o' : Obj} (h : Bes w0 c O0 s ((b, o) :: B) wr) (hk : Kept (fun k => k = b) wr w') (hb : w'.heap[b]? = some o') : Bes w0 c O0 s ((b, o') :: B) w' := by
  obtain ⟨O', h1, h2, h3⟩ := h.cs
  have hbO := h3 (b, o) (.head _)
  have hb0 := (h.box (b, o) (.head _)).2
  have hnb : ∀ p ∈ B, p.1 ≠ b := fun p hp e => (List.nodup_cons.1 h.nd).1 (List.mem_map.2 ⟨p, hp, e⟩)
  refine ⟨⟨O', h1.kept hk (fun k hO e => hbO (e ▸ hO)) (fun k hg e => by have := h.gl k hg; simp only at hb0; omega), h2.keptT hk (fun i hi e => by simp only at hb0; omega), fun p hp => ?_⟩, fun p hp => ?_, h.gl, h.nd⟩
  · rcases List.mem_cons.1 hp with rfl | hp
    · exact hbO
    · exact h3 p (.tail _ hp)
  · rcases List.mem_cons.1 hp with rfl | hp
    · exact ⟨hb, hb0⟩
    · have h4 := h.box p (.tail _ hp)
      exact ⟨(hk.block p.1 (lt_of_block h4.1) (hnb p hp)).trans h4.1, h4.2⟩
/-- A step of the cache. -/
theorem Bes.step (h : Bes w0 c O0 s B wr) (hs : ∀ O', CS wr c O' s → Grew O0 w0 O' wr → (∀ p ∈ B, ¬ O' p.1) → ∃ O'', CS w' c O'' s' ∧ Grew O' wr O'' w') : Bes w0 c O0 s' B w' := by
  obtain ⟨O', h1, h2, h3⟩ := h.cs
  obtain ⟨O'', g1, g2⟩ := hs O' h1 h2 h3
  exact ⟨⟨O'', g1, h2.trans g2, fun p hp => (g2.other (h.box p hp).1 (h3 p hp)).2⟩, fun p hp => ⟨(g2.other (h.box p hp).1 (h3 p hp)).1, (h.box p hp).2⟩, h.gl, h.nd⟩
theorem Bes.steps (h : Bes w0 c O0 s B wr) : Steps w0 c O0 s wr := by
  obtain ⟨O', h1, h2, _⟩ := h.cs
  exact ⟨O', h1, h2⟩
theorem Bes.calls (h : Bes w0 c O0 s B wr) {f : FuncId} {args : Array Value} {r : Value} (hc : ∀ O', CS wr c O' s → Calls Tryz.prog f args wr fun e w' => e = .returned r ∧ Steps wr c O' s' w') :
    Calls Tryz.prog f args wr fun e w' => e = .returned r ∧ Bes w0 c O0 s' B w' := by
  obtain ⟨O', h1, h2, h3⟩ := h.cs
  refine (hc O' h1).mono ?_
  rintro e w' ⟨rfl, O'', g1, g2⟩
  exact ⟨rfl, ⟨O'', g1, h2.trans g2, fun p hp => (g2.other (h.box p hp).1 (h3 p hp)).2⟩, fun p hp => ⟨(g2.other (h.box p hp).1 (h3 p hp)).1, (h.box p hp).2⟩, h.gl, h.nd⟩
theorem Bes.cells (h : Bes w0 c O0 s B wr) : ∃ v, wr.cell? ⟨c, 0, none⟩ = some (.int .i64 s.bud) ∧ wr.cell? ⟨c, 2, none⟩ = some v ∧ wr.cell? ⟨c, 3, none⟩ = some (.int .i64 (usedL s.U)) ∧ wr.cell? ⟨c, 4, none⟩ = some (.int .i64 s.ver) ∧ wr.cell? ⟨c, 5, none⟩ = some (.int .i64 s.gone) ∧
    Sl wr 9 1 s.U.length v (strs (keys s.U)) ∧ c < wr.heap.size := by
  obtain ⟨O', h1, h2, h3⟩ := h.cs
  obtain ⟨v, a0, a2, a3, a4, a5, a6, a7, _⟩ := cs_cells h1
  exact ⟨v, a0, a2, a3, a4, a5, a6, a7⟩
theorem CS.frozen {O : Nat → Prop} (h : CS wr c O s) (o : Nat) : wr.frozen? ⟨c, o, none⟩ = false := by
  obtain ⟨bt, S, v, Ot, rfl, h1⟩ := h
  exact frozen_at h1.blk o
theorem Bes.frozen (h : Bes w0 c O0 s B wr) (o : Nat) : wr.frozen? ⟨c, o, none⟩ = false := by
  obtain ⟨O', h1, _⟩ := h.cs
  exact h1.frozen o
theorem Bes.setVer (h : Bes w0 c O0 s B wr) (m : Int) : Bes w0 c O0 { s with ver := m } B (wr.setCell ⟨c, 4, none⟩ (.int .i64 m)) := by
  refine h.step fun O' h1 _ _ => ?_
  obtain ⟨bt, S, v, Ot, rfl, h2⟩ := h1
  exact ⟨_, ⟨bt, S, v, Ot, rfl, (h2.setVer m).1⟩, (h2.setVer m).2⟩
theorem Bes.setGone (h : Bes w0 c O0 s B wr) (m : Int) : Bes w0 c O0 { s with gone := m } B (wr.setCell ⟨c, 5, none⟩ (.int .i64 m)) := by
  refine h.step fun O' h1 _ _ => ?_
  obtain ⟨bt, S, v, Ot, rfl, h2⟩ := h1
  exact ⟨_, ⟨bt, S, v, Ot, rfl, (h2.setGone m).1⟩, (h2.setGone m).2⟩
theorem Bes.nodup (h : Bes w0 c O0 s B wr) : (keys s.U).Nodup := by
  obtain ⟨O', h1, _⟩ := h.cs
  exact h1.nodup
end

/-- A reply's box. -/
def rpC (r : Rp) (kv : Value) : Array Value := #[.int .i64 r.errno, .string r.val, .int .i64 r.num, .int .i64 r.ver, kv]
def rpO (r : Rp) (kv : Value) : Obj := .cells (rpC r kv) 36
def zRp : Obj := .cells #[.int .i64 0, .string { data := #[] }, .int .i64 0, .int .i64 0, .slice none 0 0] 36
theorem rp_size : (Tryz.prog.info? 36).map (·.size) = some 5 := by kernel_rfl
def over5 (w : World) (b : Nat) (r : Rp) (kv : Value) : World :=
  ((((w.setCell ⟨b, 0, none⟩ (.int .i64 r.errno)).setCell ⟨b, 1, none⟩ (.string r.val)).setCell ⟨b, 2, none⟩ (.int .i64 r.num)).setCell ⟨b, 3, none⟩ (.int .i64 r.ver)).setCell ⟨b, 4, none⟩ kv
theorem over5_block {w : World} {b : Nat} (h : w.heap[b]? = some zRp) (r : Rp) (kv : Value) : (over5 w b r kv).heap[b]? = some (rpO r kv) := by
  unfold over5
  rw [setCell_block (setCell_block (setCell_block (setCell_block (setCell_block h _ _) _ _) _ _) _ _)]
  rfl
theorem over5_kept (w : World) (b : Nat) (r : Rp) (kv : Value) : Kept (fun k => k = b) w (over5 w b r kv) := kept_at _ (kept_at _ (kept_at _ (kept_at _ (kept_at _ (Kept.refl _ w)))))
/-- The end of a function whose result lies in a box. -/
theorem Bes.ret {w0 wr : World} {c : Nat} {O0 : Nat → Prop} {s : CSt} {B : List (Nat × Obj)} {rb : Nat} (h : Bes w0 c O0 s ((rb, zRp) :: B) wr) (r : Rp) (kv : Value) :
    (over5 wr rb r kv).heap[rb]? = some (rpO r kv) ∧ Bes w0 c O0 s ((rb, rpO r kv) :: B) (over5 wr rb r kv) := by
  have h1 := over5_block (h.box (rb, zRp) (.head _)).1 r kv
  exact ⟨h1, h.over (over5_kept wr rb r kv) h1⟩
end Go.Proofs.YtehpafebpgndeaaGreatDoor
