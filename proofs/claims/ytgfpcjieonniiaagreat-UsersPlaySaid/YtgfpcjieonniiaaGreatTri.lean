/-
  Three things of a call's own that share no block.
-/
import Derived.Test.YtgfpcjieonniiaaGreatLib
namespace Go.Proofs.YtgfpcjieonniiaaGreat
set_option linter.unusedVariables false
set_option linter.unusedSimpArgs false
set_option linter.unnecessarySimpa false
open Go.RowKit

structure Tri (w wr : World) (A B C : Nat → Prop) : Prop where
  kept : Kept (fun _ => False) w wr
  new : ∀ k, A k ∨ B k ∨ C k → w.heap.size ≤ k
  lt : ∀ k, A k ∨ B k ∨ C k → k < wr.heap.size
  ab : ∀ k, A k → ¬ B k
  ac : ∀ k, A k → ¬ C k
  bc : ∀ k, B k → ¬ C k

section
variable {w wr w2 : World} {A B C A' B' C' : Nat → Prop}
theorem Tri.keep (h : Tri w wr A B C) (hk : Kept (fun _ => False) wr w2) : Tri w w2 A B C :=
  ⟨h.kept.trans hk (fun _ _ h => h), h.new, fun k hk' => Nat.lt_of_lt_of_le (h.lt k hk') hk.size, h.ab, h.ac, h.bc⟩
theorem Tri.turn1 (h : Tri w wr A B C) (hk : Kept A wr w2) (hA : ∀ k, A' k → A k ∨ wr.heap.size ≤ k) (hlt : ∀ k, A' k → k < w2.heap.size) : Tri w w2 A' B C := by
  have hz := h.kept.size
  refine ⟨h.kept.trans hk (fun k hk' hA => by have := h.new k (.inl hA); omega), fun k hk' => ?_, fun k hk' => ?_, fun k hk' hb => ?_, fun k hk' hc => ?_, h.bc⟩
  · rcases hk' with e | e
    · rcases hA k e with e | e
      · exact h.new k (.inl e)
      · omega
    · exact h.new k (.inr e)
  · rcases hk' with e | e
    · exact hlt k e
    · exact Nat.lt_of_lt_of_le (h.lt k (.inr e)) hk.size
  · rcases hA k hk' with e | e
    · exact h.ab k e hb
    · have := h.lt k (.inr (.inl hb)); omega
  · rcases hA k hk' with e | e
    · exact h.ac k e hc
    · have := h.lt k (.inr (.inr hc)); omega
theorem Tri.rot (h : Tri w wr A B C) : Tri w wr B C A :=
  ⟨h.kept, fun k hk => h.new k (by rcases hk with e | e | e <;> simp [e]), fun k hk => h.lt k (by rcases hk with e | e | e <;> simp [e]), h.bc, fun k hb ha => h.ab k ha hb, fun k hc ha => h.ac k ha hc⟩
theorem Tri.turn2 (h : Tri w wr A B C) (hk : Kept B wr w2) (hB : ∀ k, B' k → B k ∨ wr.heap.size ≤ k) (hlt : ∀ k, B' k → k < w2.heap.size) : Tri w w2 A B' C := (h.rot.turn1 hk hB hlt).rot.rot
theorem Tri.turn3 (h : Tri w wr A B C) (hk : Kept C wr w2) (hC : ∀ k, C' k → C k ∨ wr.heap.size ≤ k) (hlt : ∀ k, C' k → k < w2.heap.size) : Tri w w2 A B C' := (h.rot.rot.turn1 hk hC hlt).rot
theorem Tri.start (hk : Kept (fun _ => False) w wr) : Tri w wr (fun _ => False) (fun _ => False) (fun _ => False) :=
  ⟨hk, fun k h => by rcases h with h | h | h <;> exact h.elim, fun k h => by rcases h with h | h | h <;> exact h.elim, fun _ h => h.elim, fun _ h => h.elim, fun _ h => h.elim⟩
/-- What the third one does not hold is not touched where the third one turns. -/
theorem Tri.not3 (h : Tri w wr A B C) : (∀ k, A k → ¬ C k) ∧ ∀ k, B k → ¬ C k := ⟨h.ac, h.bc⟩
end
end Go.Proofs.YtgfpcjieonniiaaGreat
