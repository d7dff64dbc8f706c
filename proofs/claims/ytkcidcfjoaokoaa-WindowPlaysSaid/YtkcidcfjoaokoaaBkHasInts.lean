/-
  A Book in memory, in words of its lists.
-/
import Derived.Test.YtkcidcfjoaokoaaBkApInts
namespace Go.Proofs.Ytkcidcfjoaokoaa
set_option linter.unusedVariables false
set_option linter.unusedSimpArgs false
set_option linter.unnecessarySimpa false
open Go.RowKit

def bookArr (VInts CInts : Value) : Array Value := #[.slice none 0 0, .slice none 0 0, VInts, CInts, .slice none 0 0, .slice none 0 0, .slice none 0 0, .slice none 0 0, .slice none 0 0, .slice none 0 0, .slice none 0 0, .slice none 0 0, .slice none 0 0, .slice none 0 0]
/-- What one kind of list is, of a Book: the lists and the copies, in blocks of F. -/
structure KindInts (W : World) (b : Nat) (F F1 F2 : Nat → Prop) (V C : Value) (Ls : List (List Int)) (vs cs : List Value) (len : Nat → Nat) (con : Nat → List Value) : Prop where
  kb : Kb W 22 3 1 F1 F2 Ls.length V C vs cs len con
  lists : ∀ (i : Nat) (hi : i < Ls.length), len i = (Ls[i]).length ∧ con i = ((Ls[i]).map (Value.int .i64))
  iff : ∀ k, F k ↔ F1 k ∨ F2 k
  out : ¬ F b
  short : ∀ L ∈ Ls, L.length ≤ 90000
theorem KindInts.nil (W : World) (b : Nat) : KindInts W b (fun _ => False) (fun _ => False) (fun _ => False) (.slice none 0 0) (.slice none 0 0) [] [] [] (fun _ => 0) (fun _ => []) :=
  ⟨⟨Kd.nil _ _ _ _ _ _, Kd.nil _ _ _ _ _ _, fun _ h => h.elim⟩, fun i hi => by simp at hi, fun k => by simp, fun h => h, fun L hL => by simp at hL⟩
theorem KindInts.kept {W W2 : World} {b : Nat} {F F1 F2 S : Nat → Prop} {V C : Value} {Ls : List (List Int)} {vs cs : List Value} {len : Nat → Nat} {con : Nat → List Value} (h : KindInts W b F F1 F2 V C Ls vs cs len con) (hk : Kept S W W2) (hS : ∀ k, F k → ¬ S k) : KindInts W2 b F F1 F2 V C Ls vs cs len con :=
  ⟨h.kb.kept hk (fun k hk => hS k ((h.iff k).2 hk)), h.lists, h.iff, h.out, h.short⟩
theorem KindInts.lt {W : World} {b : Nat} {F F1 F2 : Nat → Prop} {V C : Value} {Ls : List (List Int)} {vs cs : List Value} {len : Nat → Nat} {con : Nat → List Value} (h : KindInts W b F F1 F2 V C Ls vs cs len con) (k : Nat) (hk : F k) : k < W.heap.size := by
  rcases (h.iff k).1 hk with e | e
  · exact h.kb.v.lt k e
  · exact h.kb.c.lt k e

/-- The Book at block b, its lists; F holds all its blocks. -/
def BookHas (W : World) (b : Nat) (F : Nat → Prop) (LsInts : List (List Int)) : Prop :=
  ∃ FInts F1Ints F2Ints VInts CInts vsInts csInts lenInts conInts, KindInts W b FInts F1Ints F2Ints VInts CInts LsInts vsInts csInts lenInts conInts ∧ W.heap[b]? = some (.cells (bookArr VInts CInts) 44 (0, 0)) ∧ ∀ k, F k ↔ k = b ∨ FInts k
theorem BookHas.new (W : World) : BookHas (W.alloc (.cells (bookArr (.slice none 0 0) (.slice none 0 0)) 44)) W.heap.size (fun k => k = W.heap.size) [] :=
  ⟨_, _, _, _, _, _, _, _, _, KindInts.nil _ _, heap_alloc_new _ _, fun k => by simp⟩
theorem BookHas.kept {W W2 : World} {b : Nat} {F S : Nat → Prop} {LsInts : List (List Int)} (h : BookHas W b F LsInts) (hk : Kept S W W2) (hS : ∀ k, F k → ¬ S k) : BookHas W2 b F LsInts := by
  obtain ⟨FInts, F1Ints, F2Ints, VInts, CInts, vsInts, csInts, lenInts, conInts, hInts, hb, hF⟩ := h
  exact ⟨_, _, _, _, _, _, _, _, _, hInts.kept hk (fun k hk => hS k ((hF k).2 (.inr hk))), (hk.block b (lt_of_block hb) (hS b ((hF b).2 (.inl rfl)))).trans hb, hF⟩
theorem BookHas.lt {W : World} {b : Nat} {F : Nat → Prop} {LsInts : List (List Int)} (h : BookHas W b F LsInts) (k : Nat) (hk : F k) : k < W.heap.size := by
  obtain ⟨FInts, F1Ints, F2Ints, VInts, CInts, vsInts, csInts, lenInts, conInts, hInts, hb, hF⟩ := h
  rcases (hF k).1 hk with rfl | e
  · exact lt_of_block hb
  · exact hInts.lt k e

/-- One more list of ints. -/
theorem BookHas.keepInts {W : World} {b : Nat} {F : Nat → Prop} {LsInts : List (List Int)} (h : BookHas W b F LsInts) (u : Value) (L : List Int) (hu : Sl W 3 1 L.length u ((L).map (Value.int .i64))) (hf : ∀ k, u.ownBlock = some k → ¬ F k) (hn : LsInts.length < 250) (hl : L.length ≤ 90000) :
    Calls Try.prog 12 #[.pointer (some ⟨b, 0, none⟩), u] W fun e w' => e = .returned (.tuple #[]) ∧ ∃ F', BookHas w' b F' (LsInts ++ [L]) ∧ Kept F W w' ∧ ∀ k, F' k → F k ∨ u.ownBlock = some k ∨ W.heap.size ≤ k := by
  obtain ⟨FInts, F1Ints, F2Ints, VInts, CInts, vsInts, csInts, lenInts, conInts, hInts, hb, hF⟩ := h
  have hn1 : ¬ F1Ints b := fun e => hInts.out ((hInts.iff b).2 (.inl e))
  have hn2 : ¬ F2Ints b := fun e => hInts.out ((hInts.iff b).2 (.inr e))
  refine (keepInts_any b _ F1Ints F2Ints LsInts.length VInts CInts vsInts csInts lenInts conInts u L W hInts.kb hb rfl rfl hn1 hn2 hu (fun x hx => ⟨fun e => hf x hx ((hF x).2 (.inr ((hInts.iff x).2 (.inl e)))), fun e => hf x hx ((hF x).2 (.inr ((hInts.iff x).2 (.inr e)))), fun e => hf x hx ((hF x).2 (.inl e))⟩) hn (by omega)).mono ?_
  rintro e w' ⟨rfl, G1, G2, V, C, vs, cs, k1, k2, k3, k4, k5, k6⟩
  have hkk : Kept F W w' := k5.mono (fun x _ hx => by
    rcases hx with rfl | e | e
    · exact (hF _).2 (.inl rfl)
    · exact (hF x).2 (.inr ((hInts.iff x).2 (.inl e)))
    · exact (hF x).2 (.inr ((hInts.iff x).2 (.inr e))))
  have hG : ∀ x, G1 x ∨ G2 x → FInts x ∨ u.ownBlock = some x ∨ W.heap.size ≤ x := fun x hx => by
    rcases k6 x hx with e | e | e | e
    · exact .inl ((hInts.iff x).2 (.inl e))
    · exact .inl ((hInts.iff x).2 (.inr e))
    · exact .inr (.inl e)
    · exact .inr (.inr e)
  have hK : KindInts w' b (fun x => G1 x ∨ G2 x) G1 G2 V C (LsInts ++ [L]) vs cs (fun j => if j = LsInts.length then L.length else lenInts j) (fun j => if j = LsInts.length then ((L).map (Value.int .i64)) else conInts j) := by
    refine ⟨by rw [List.length_append]; exact k1, fun i hi => ?_, fun x => Iff.rfl, fun e => e.elim k3 k4, fun K hK => ?_⟩
    · by_cases e : i = LsInts.length
      · subst e
        simp
      · rw [List.length_append] at hi
        have hi' : i < LsInts.length := by simp at hi; omega
        rw [if_neg e, if_neg e, List.getElem_append_left hi']
        exact hInts.lists i hi'
    · rcases List.mem_append.1 hK with e | e
      · exact hInts.short K e
      · rw [List.mem_singleton.1 e]; exact hl
  refine ⟨rfl, fun x => x = b ∨ G1 x ∨ G2 x, ⟨_, _, _, _, _, _, _, _, _, hK, k2, fun x => Iff.rfl⟩, hkk, fun x hx => ?_⟩
  rcases hx with rfl | e
  · exact .inl ((hF _).2 (.inl rfl))
  · rcases hG x e with e | e | e
    · exact .inl ((hF x).2 (.inr e))
    · exact .inr (.inl e)
    · exact .inr (.inr e)

theorem BookHas.apart {W : World} {b : Nat} {F : Nat → Prop} {LsInts : List (List Int)} (h : BookHas W b F LsInts) (hnInts : LsInts.length ≤ 1000) :
    Calls Try.prog 15 #[.pointer (some ⟨b, 0, none⟩)] W fun e w' => e = .returned (.bool true) ∧ Kept F W w' := by
  obtain ⟨FInts, F1Ints, F2Ints, VInts, CInts, vsInts, csInts, lenInts, conInts, hInts, hb, hF⟩ := h
  have hc := fun o => cell_at hb o
  refine (apart_any b F1Ints F2Ints _ VInts CInts vsInts csInts lenInts conInts LsInts W hInts.kb rfl hInts.lists (fun e => hInts.out ((hInts.iff b).2 (.inl e))) hnInts hInts.short ⟨hc 0, hc 4, hc 6, hc 8, hc 10, hc 12, hc 2, hc 3⟩).mono ?_
  rintro e w' ⟨rfl, hk⟩
  refine ⟨rfl, hk.mono (fun x _ hx => ?_)⟩
  exact (hF x).2 (.inr ((hInts.iff x).2 (.inl hx)))
end Go.Proofs.Ytkcidcfjoaokoaa
