/-
  A slice of the call's own; keeping a list and its copy in a Book, whatever their kind.
-/
import Derived.Test.YtgfpcjieonniiaaGreatBook
namespace Go.Proofs.YtgfpcjieonniiaaGreat
set_option linter.unusedVariables false
set_option linter.unusedSimpArgs false
set_option linter.unnecessarySimpa false
open Go.RowKit

/-- A slice that is the call's own: it holds the cells xs; nothing that was there has turned. -/
def Fresh (w w' : World) (E : TypeId) (size n : Nat) (u : Value) (xs : List Value) : Prop :=
  Sl w' E size n u xs ∧ Kept (fun _ => False) w w' ∧ ((u = .slice none 0 0 ∧ n = 0) ∨ ∃ g off cap, u = .slice (some ⟨g, off, none⟩) n cap ∧ w.heap.size ≤ g)
def FreshRet (w : World) (E : TypeId) (size n : Nat) (xs : List Value) (e : Ending) (w' : World) : Prop := ∃ u, e = .returned u ∧ Fresh w w' E size n u xs
theorem Fresh.nil {w w' : World} {E : TypeId} {size : Nat} (h : Kept (fun _ => False) w w') : Fresh w w' E size 0 (.slice none 0 0) [] := ⟨Sl.nil _ _ _, h, .inl ⟨rfl, rfl⟩⟩
theorem Fresh.push {w w1 w2 : World} {E : TypeId} {size n g off cap : Nat} {v : Value} {xs ys : List Value} (h : Fresh w w1 E size n v xs)
    (h1 : Sl w2 E size (n + 1) (.slice (some ⟨g, off, none⟩) (n + 1) cap) ys) (h2 : Kept (fun i => v.ownBlock = some i) w1 w2) (h3 : v.ownBlock = some g ∨ w1.heap.size ≤ g) :
    Fresh w w2 E size (n + 1) (.slice (some ⟨g, off, none⟩) (n + 1) cap) ys := by
  have hown : ∀ i, v.ownBlock = some i → w.heap.size ≤ i := by
    intro i hi
    rcases h.2.2 with ⟨rfl, _⟩ | ⟨g', off', cap', rfl, hg⟩
    · cases hi
    · simp [Value.ownBlock] at hi
      omega
  refine ⟨h1, h.2.1.trans h2 (fun i hi e => by have := hown i e; omega), .inr ⟨g, off, cap, rfl, ?_⟩⟩
  exact h3.elim (hown g) (fun e => Nat.le_trans h.2.1.size e)

theorem mkF_at {mk : Nat → List Value} {size : Nat} (hmk : ∀ k, (mk k).length = size) {n k j : Nat} (hk : k < n) (hj : j < size) : (mkF mk 0 n)[k * size + j]? = (mk k)[j]? := by
  obtain ⟨r, rfl⟩ : ∃ r, n = k + (1 + r) := ⟨n - k - 1, by omega⟩
  rw [mkF_add, List.getElem?_append_right (by rw [mkF_length hmk]; omega), mkF_length hmk, Nat.add_sub_cancel_left, mkF_add, List.getElem?_append_left (by rw [mkF_length hmk]; omega), mkF_succ, mkF_zero]
  simp
theorem mkF_one {mk : Nat → List Value} (h : ∀ k, ∀ u ∈ mk k, u.oneCell' = true) (fr n : Nat) : ∀ u ∈ mkF mk fr n, u.oneCell' = true := by
  intro u hu
  unfold mkF at hu
  obtain ⟨k, _, hk⟩ := List.mem_flatMap.1 hu
  exact h _ u hk

/-- Behind the keeping of one more list. -/
def KeptOne (w w' : World) (T E : TypeId) (size : Nat) (BT : TypeId) (b : Nat) (arr : Array Value) (o1 o2 : Nat) (F1 F2 : Nat → Prop) (N : Nat) (u : Value) (n : Nat) (xs : List Value) (len : Nat → Nat) (con : Nat → List Value) : Prop :=
  ∃ G1 G2 V C vs cs, Kb w' T E size G1 G2 (N + 1) V C vs cs (fun j => if j = N then n else len j) (fun j => if j = N then xs else con j) ∧ w'.heap[b]? = some (.cells ((arr.setIfInBounds o1 V).setIfInBounds o2 C) BT (0, 0)) ∧ ¬ G1 b ∧ ¬ G2 b ∧
    Kept (fun k => k = b ∨ F1 k ∨ F2 k) w w' ∧ ∀ k, G1 k ∨ G2 k → F1 k ∨ F2 k ∨ u.ownBlock = some k ∨ w.heap.size ≤ k

theorem Kb.one {w wa wb w4 wc wd : World} {T E : TypeId} {size : Nat} {F1 F2 : Nat → Prop} {N : Nat} {V C : Value} {vs cs : List Value} {len : Nat → Nat} {con : Nat → List Value} {b : Nat} {arr : Array Value} {BT : TypeId} (h : Kb w T E size F1 F2 N V C vs cs len con) (hb : w.heap[b]? = some (.cells arr BT (0, 0))) (hF1 : ¬ F1 b) (hF2 : ¬ F2 b)
    {u : Value} {n : Nat} {xs : List Value} (hu : Sl w E size n u xs) (hf : ∀ k, u.ownBlock = some k → ¬ F1 k ∧ ¬ F2 k ∧ k ≠ b) (hk : Kept (fun _ => False) w wa) {g off cap o1 o2 : Nat}
    (h1 : Sl wb T 1 (N + 1) (.slice (some ⟨g, off, none⟩) (N + 1) cap) (vs ++ [u])) (h2 : Kept (fun k => V.ownBlock = some k) wa wb) (h3 : V = .slice (some ⟨g, off, none⟩) N cap ∨ wa.heap.size ≤ g ∧ Kept (fun _ => False) wa wb)
    (hcb : Sl (wb.setCell ⟨b, o1, none⟩ (.slice (some ⟨g, off, none⟩) (N + 1) cap)) E size n u xs → True)
    {x : Value} (hx : Fresh (wb.setCell ⟨b, o1, none⟩ (.slice (some ⟨g, off, none⟩) (N + 1) cap)) w4 E size n x xs) (hk4 : Kept (fun _ => False) w4 wc) {g' off' cap' : Nat}
    (k1 : Sl wd T 1 (N + 1) (.slice (some ⟨g', off', none⟩) (N + 1) cap') (cs ++ [x])) (k2 : Kept (fun k => C.ownBlock = some k) wc wd) (k3 : C = .slice (some ⟨g', off', none⟩) N cap' ∨ wc.heap.size ≤ g' ∧ Kept (fun _ => False) wc wd) :
    KeptOne w (wd.setCell ⟨b, o2, none⟩ (.slice (some ⟨g', off', none⟩) (N + 1) cap')) T E size BT b arr o1 o2 F1 F2 N u n xs len con := by
  obtain ⟨G1, a1, a2, a3, a4, a5, a6, a7⟩ := h.v.keep hb hF1 hu (fun k hk => ⟨(hf k hk).1, (hf k hk).2.2⟩) hk h1 h2 h3 o1
  generalize wb.setCell ⟨b, o1, none⟩ (.slice (some ⟨g, off, none⟩) (N + 1) cap) = w3 at *
  have hC3 := h.c.kept a4 (fun k hk hh => by
    rcases hh with rfl | hh
    · exact hF2 hk
    · exact h.dis k hh hk)
  have hC4 := hC3.kept hx.2.1 (fun _ _ h => h)
  have hb4 : w4.heap[b]? = some (.cells (arr.setIfInBounds o1 (.slice (some ⟨g, off, none⟩) (N + 1) cap)) BT (0, 0)) := (hx.2.1.block b (lt_of_block a2) (fun e => e)).trans a2
  have hown : ∀ k, x.ownBlock = some k → w3.heap.size ≤ k := by
    intro k hk
    rcases hx.2.2 with ⟨rfl, _⟩ | ⟨g, off, cap, rfl, hg⟩
    · cases hk
    · simp [Value.ownBlock] at hk
      omega
  have hbl3 := lt_of_block a2
  obtain ⟨G2, c1, c2, c3, c4, c5, c6, c7⟩ := hC4.keep hb4 hF2 hx.1 (fun k hk => ⟨fun e => by have := hC3.lt k e; have := hown k hk; omega, fun e => by have := hown k hk; omega⟩) hk4 k1 k2 k3 o2
  have hz := a4.size
  have hz2 := hx.2.1.size
  have hd : ∀ k, G1 k → ¬ F2 k := fun k hk hh => by
    rcases a5 k hk with e | e | e
    · exact h.dis k e hh
    · exact (hf k e).2.1 hh
    · have := h.c.lt k hh; omega
  refine ⟨G1, G2, _, _, _, _, ⟨(a1.kept hx.2.1 (fun _ _ h => h)).kept c4 (fun k hk hh => ?_), c1, fun k hk hh => ?_⟩, c2, a3, c3, ?_, ?_⟩
  · rcases hh with rfl | hh
    · exact a3 hk
    · exact hd k hk hh
  · have hlt := a1.lt k hk
    rcases c5 k hh with e | e | e
    · exact hd k hk e
    · have := hown k e; omega
    · omega
  · refine ((a4.mono (fun k _ hh => hh.imp id .inl)).trans hx.2.1 (fun _ _ h => h.elim)).trans c4 (fun k _ hh => hh.imp id .inr)
  · rintro k (e | e)
    · rcases a5 k e with e | e | e
      · exact .inl e
      · exact .inr (.inr (.inl e))
      · exact .inr (.inr (.inr e))
    · rcases c5 k e with e | e | e
      · exact .inr (.inl e)
      · exact .inr (.inr (.inr (by have := hown k e; omega)))
      · exact .inr (.inr (.inr (by omega)))

end Go.Proofs.YtgfpcjieonniiaaGreat
