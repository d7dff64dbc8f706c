/-
  A cache of a law's own: Items and Order, whose slices are held beside it; many ticks.
-/
import Derived.Test.YtehpafebpgndeaaGreatDoorCacheV
import Derived.Test.YtehpafebpgndeaaGreatDoorCacheS
namespace Go.Proofs.YtehpafebpgndeaaGreatDoor
set_option linter.unusedVariables false
set_option linter.unusedSimpArgs false
set_option linter.unnecessarySimpa false
open Go.RowKit
set_option maxRecDepth 100000

/-- The slice's row is one of the boxes. -/
def HeldS (B : List (Nat × Obj)) (E : TypeId) (size n : Nat) (v : Value) (xs : List Value) : Prop := ∀ W : World, (∀ p ∈ B, W.heap[p.1]? = some p.2) → Sl W E size n v xs
theorem HeldS.more {B B' : List (Nat × Obj)} {E : TypeId} {size n : Nat} {v : Value} {xs : List Value} (h : HeldS B E size n v xs) (hB : ∀ p ∈ B, p ∈ B') : HeldS B' E size n v xs := fun W hW => h W fun p hp => hW p (hB p hp)
theorem Sl.block {w : World} {E : TypeId} {size n : Nat} {v : Value} {xs : List Value} (h : Sl w E size n v xs) {g : Nat} (hg : v.ownBlock = some g) : ∃ o, w.heap[g]? = some o := by
  rcases h.2 with ⟨rfl, _⟩ | ⟨g', off, cap, cur, rfl, h1, _⟩
  · cases hg
  · simp [Value.ownBlock] at hg
    exact ⟨_, hg ▸ h1⟩
section
variable {w0 w w' : World} {c : Nat} {s : CSt} {m : Int} {B : List (Nat × Obj)} {O O' : Nat → Prop} {E : TypeId} {size n : Nat} {v : Value} {xs : List Value}
theorem OwnC.held (h : OwnC w0 w c s m B) (hh : HeldS B E size n v xs) : Sl w E size n v xs := hh w fun p hp => (h.2.box p hp).1
theorem OwnC.drop {p : Nat × Obj} (h : OwnC w0 w c s m (p :: B)) : OwnC w0 w c s m B := ⟨h.1, h.2.drop⟩
/-- A fresh slice that the cache told joins the boxes. -/
theorem OwnC.hold (h : OwnC w0 w c s m B) {v : Value} (hs : Sl w E size n v xs) (hv : ∀ k, v.ownBlock = some k → w0.heap.size ≤ k ∧ (∀ p ∈ B, p.1 ≠ k) ∧ ∃ O', CS w c O' s ∧ Grew (fun _ => False) w0 O' w ∧ (∀ p ∈ B, ¬ O' p.1) ∧ ¬ O' k) :
    ∃ B', OwnC w0 w c s m B' ∧ (∀ p ∈ B, p ∈ B') ∧ HeldS B' E size n v xs := by
  cases hb : v.ownBlock with
  | none => exact ⟨B, h, fun _ hp => hp, fun W hW => hs.same fun g hg => by rw [hb] at hg; cases hg⟩
  | some g =>
    obtain ⟨o, ho⟩ := hs.block hb
    obtain ⟨h0, h1, O', c1, c2, c3, c4⟩ := hv g hb
    refine ⟨(g, o) :: B, ⟨h.1, ⟨O', c1, c2, fun p hp => ?_⟩, fun p hp => ?_, h.2.gl, ?_⟩, fun _ hp => .tail _ hp, fun W hW => hs.same fun g' hg => ?_⟩
    · rcases List.mem_cons.1 hp with rfl | hp
      · exact c4
      · exact c3 p hp
    · rcases List.mem_cons.1 hp with rfl | hp
      · exact ⟨ho, h0⟩
      · exact h.2.box p hp
    · rw [List.map_cons, List.nodup_cons]
      refine ⟨fun hm => ?_, h.2.nd⟩
      obtain ⟨p, hp, e⟩ := List.mem_map.1 hm
      exact h1 p hp e
    · rw [hb] at hg
      injection hg with hg
      subst hg
      rw [ho]
      exact hW (g, o) (.head _)
theorem own_items (h : OwnC w0 w c s m B) : Calls Tryz.prog 28 #[.pointer (some ⟨c, 0, none⟩)] w fun e w' => ∃ v B', e = .returned v ∧ OwnC w0 w' c s m B' ∧ (∀ p ∈ B, p ∈ B') ∧ HeldS B' 23 4 s.U.length v (flat (itemsL s.U)) ∧ ∃ ao ca, v = .slice ao s.U.length ca := by
  obtain ⟨O1, h1, h2, h3⟩ := h.2.cs
  have hu := h.1.used
  have hb := h.1.b1
  have hge := usedL_ge s.U
  refine (citems c O1 s w h1 (by omega) (fun x hx => by have := h.1.keyl x hx; omega)).mono ?_
  rintro e w' ⟨v, O', rfl, g1, g2, g3, g4⟩
  obtain ⟨ao, ca, hsh, _⟩ := (Rd.of_sl g3).shape
  have hB : OwnC w0 w' c s m B := ⟨h.1, ⟨O', g1, h2.trans g2, fun p hp => (g2.other (h.2.box p hp).1 (h3 p hp)).2⟩, fun p hp => ⟨(g2.other (h.2.box p hp).1 (h3 p hp)).1, (h.2.box p hp).2⟩, h.2.gl, h.2.nd⟩
  obtain ⟨B', b1, b2, b3⟩ := hB.hold g3 fun k hk => ⟨by have := (g4 k hk).1; have := h2.1.size; omega, fun p hp e => by have := (g4 k hk).1; have := h.2.lt hp; omega, O', g1, h2.trans g2, fun p hp => (g2.other (h.2.box p hp).1 (h3 p hp)).2, (g4 k hk).2⟩
  exact ⟨v, B', rfl, b1, b2, b3, ao, ca, hsh⟩
theorem own_order (h : OwnC w0 w c s m B) : Calls Tryz.prog 32 #[.pointer (some ⟨c, 0, none⟩)] w fun e w' => ∃ v B', e = .returned v ∧ OwnC w0 w' c s m B' ∧ (∀ p ∈ B, p ∈ B') ∧ HeldS B' 9 1 s.U.length v (strs (keys s.U)) ∧ ∃ ao ca, v = .slice ao s.U.length ca := by
  obtain ⟨O1, h1, h2, h3⟩ := h.2.cs
  have hu := h.1.used
  have hb := h.1.b1
  have hge := usedL_ge s.U
  refine (corder c O1 s w h1 (by omega)).mono ?_
  rintro e w' ⟨v, rfl, k1, k2, k3⟩
  have hkl : (keys s.U).length = s.U.length := by unfold keys; rw [List.length_map]
  rw [hkl] at k1
  obtain ⟨ao, ca, hsh, _⟩ := (Rd.of_sl k1).shape
  have hB := h.kept0 k2
  obtain ⟨B', b1, b2, b3⟩ := hB.hold k1 fun k hk => ⟨by have := k3 k hk; have := h2.1.size; omega, fun p hp e => by have := k3 k hk; have := h.2.lt hp; omega, O1, h1.kept0 k2, h2.kept k2, h3, fun hO => by have := h1.lt hO; have := k3 k hk; omega⟩
  exact ⟨v, B', rfl, b1, b2, b3, ao, ca, hsh⟩
theorem own_orderK (h : OwnC w0 w c s m B) : Calls Tryz.prog 32 #[.pointer (some ⟨c, 0, none⟩)] w fun e w' => ∃ v, e = .returned v ∧ Strs w w' v (Go.Proofs.YtehpafebpgndeaaGreatDoor.keys s.U) := by
  obtain ⟨O1, h1, h2, h3⟩ := h.2.cs
  have hu := h.1.used
  have hb := h.1.b1
  have hge := usedL_ge s.U
  exact corder c O1 s w h1 (by omega)
/-- Any command: its keys' slice joins the boxes. -/
theorem own_doA (h : OwnC w0 w c s m B) (hm : m ≤ 1000000000) (x : Cm) (now : Int) (hk : x.key.size ≤ 1000000000) (hv : x.val.size ≤ 1000000000) {r : Rp} {s' : CSt} (hr : doC s x now = (r, s')) :
    Calls Tryz.prog 27 #[.pointer (some ⟨c, 0, none⟩), .agg #[.int .i64 x.op, .string x.key, .string x.val, .int .i64 x.num, .int .i64 x.ver], .int .i64 now] w fun e w' => ∃ kv B', e = .returned (.agg #[.int .i64 r.errno, .string r.val, .int .i64 r.num, .int .i64 r.ver, kv]) ∧ OwnC w0 w' c s' (m + 1) B' ∧ (∀ p ∈ B, p ∈ B') ∧ HeldS B' 9 1 r.keys.length kv (strs r.keys) ∧ ∃ ao ca, kv = .slice ao r.keys.length ca := by
  obtain ⟨O1, h1, h2, h3⟩ := h.2.cs
  have hg' := h.1.does x now
  have hc := cdo_all c O1 s x now w h1 (h.1.fit hm) hk hv
  rw [hr] at hc hg'
  refine hc.mono ?_
  rintro e w' ⟨kv, O', rfl, c1, g1, k1, k2⟩
  have hB : OwnC w0 w' c s' (m + 1) B := ⟨hg', ⟨O', c1, h2.trans g1, fun p hp => (g1.other (h.2.box p hp).1 (h3 p hp)).2⟩, fun p hp => ⟨(g1.other (h.2.box p hp).1 (h3 p hp)).1, (h.2.box p hp).2⟩, h.2.gl, h.2.nd⟩
  obtain ⟨ao, ca, hsh, _⟩ := (Rd.of_sl k1).shape
  obtain ⟨B', b1, b2, b3⟩ := hB.hold k1 fun k hk => ⟨by have := (k2 k hk).1; have := h2.1.size; omega, fun p hp e => by have := (k2 k hk).1; have := h.2.lt hp; omega, O', c1, h2.trans g1, fun p hp => (g1.other (h.2.box p hp).1 (h3 p hp)).2, (k2 k hk).2⟩
  exact ⟨kv, B', rfl, b1, b2, b3, ao, ca, hsh⟩
end
end Go.Proofs.YtehpafebpgndeaaGreatDoor
