/-
  A Book in memory, in words of its lists.
-/
import Derived.Test.YtgfpcjieonniiaaGreatBkApTexts
namespace Go.Proofs.YtgfpcjieonniiaaGreat
set_option linter.unusedVariables false
set_option linter.unusedSimpArgs false
set_option linter.unnecessarySimpa false
open Go.RowKit

def bookArr (VTexts CTexts : Value) : Array Value := #[VTexts, CTexts, .slice none 0 0, .slice none 0 0, .slice none 0 0, .slice none 0 0, .slice none 0 0, .slice none 0 0, .slice none 0 0, .slice none 0 0, .slice none 0 0, .slice none 0 0, .slice none 0 0, .slice none 0 0]
/-- What one kind of list is, of a Book: the lists and the copies, in blocks of F. -/
structure KindTexts (W : World) (b : Nat) (F F1 F2 : Nat → Prop) (V C : Value) (Ls : List (List ByteArray)) (vs cs : List Value) (len : Nat → Nat) (con : Nat → List Value) : Prop where
  kb : Kb W 47 9 1 F1 F2 Ls.length V C vs cs len con
  lists : ∀ (i : Nat) (hi : i < Ls.length), len i = (Ls[i]).length ∧ con i = ((Ls[i]).map Value.string)
  iff : ∀ k, F k ↔ F1 k ∨ F2 k
  out : ¬ F b
  short : ∀ L ∈ Ls, L.length ≤ 90000
theorem KindTexts.nil (W : World) (b : Nat) : KindTexts W b (fun _ => False) (fun _ => False) (fun _ => False) (.slice none 0 0) (.slice none 0 0) [] [] [] (fun _ => 0) (fun _ => []) :=
  ⟨⟨Kd.nil _ _ _ _ _ _, Kd.nil _ _ _ _ _ _, fun _ h => h.elim⟩, fun i hi => by simp at hi, fun k => by simp, fun h => h, fun L hL => by simp at hL⟩
theorem KindTexts.kept {W W2 : World} {b : Nat} {F F1 F2 S : Nat → Prop} {V C : Value} {Ls : List (List ByteArray)} {vs cs : List Value} {len : Nat → Nat} {con : Nat → List Value} (h : KindTexts W b F F1 F2 V C Ls vs cs len con) (hk : Kept S W W2) (hS : ∀ k, F k → ¬ S k) : KindTexts W2 b F F1 F2 V C Ls vs cs len con :=
  ⟨h.kb.kept hk (fun k hk => hS k ((h.iff k).2 hk)), h.lists, h.iff, h.out, h.short⟩
theorem KindTexts.lt {W : World} {b : Nat} {F F1 F2 : Nat → Prop} {V C : Value} {Ls : List (List ByteArray)} {vs cs : List Value} {len : Nat → Nat} {con : Nat → List Value} (h : KindTexts W b F F1 F2 V C Ls vs cs len con) (k : Nat) (hk : F k) : k < W.heap.size := by
  rcases (h.iff k).1 hk with e | e
  · exact h.kb.v.lt k e
  · exact h.kb.c.lt k e

/-- The Book at block b, its lists; F holds all its blocks. -/
def BookHas (W : World) (b : Nat) (F : Nat → Prop) (LsTexts : List (List ByteArray)) : Prop :=
  ∃ FTexts F1Texts F2Texts VTexts CTexts vsTexts csTexts lenTexts conTexts, KindTexts W b FTexts F1Texts F2Texts VTexts CTexts LsTexts vsTexts csTexts lenTexts conTexts ∧ W.heap[b]? = some (.cells (bookArr VTexts CTexts) 45 (0, 0)) ∧ ∀ k, F k ↔ k = b ∨ FTexts k
theorem BookHas.new (W : World) : BookHas (W.alloc (.cells (bookArr (.slice none 0 0) (.slice none 0 0)) 45)) W.heap.size (fun k => k = W.heap.size) [] :=
  ⟨_, _, _, _, _, _, _, _, _, KindTexts.nil _ _, heap_alloc_new _ _, fun k => by simp⟩
theorem BookHas.kept {W W2 : World} {b : Nat} {F S : Nat → Prop} {LsTexts : List (List ByteArray)} (h : BookHas W b F LsTexts) (hk : Kept S W W2) (hS : ∀ k, F k → ¬ S k) : BookHas W2 b F LsTexts := by
  obtain ⟨FTexts, F1Texts, F2Texts, VTexts, CTexts, vsTexts, csTexts, lenTexts, conTexts, hTexts, hb, hF⟩ := h
  exact ⟨_, _, _, _, _, _, _, _, _, hTexts.kept hk (fun k hk => hS k ((hF k).2 (.inr hk))), (hk.block b (lt_of_block hb) (hS b ((hF b).2 (.inl rfl)))).trans hb, hF⟩
theorem BookHas.lt {W : World} {b : Nat} {F : Nat → Prop} {LsTexts : List (List ByteArray)} (h : BookHas W b F LsTexts) (k : Nat) (hk : F k) : k < W.heap.size := by
  obtain ⟨FTexts, F1Texts, F2Texts, VTexts, CTexts, vsTexts, csTexts, lenTexts, conTexts, hTexts, hb, hF⟩ := h
  rcases (hF k).1 hk with rfl | e
  · exact lt_of_block hb
  · exact hTexts.lt k e

/-- One more list of texts. -/
theorem BookHas.keepTexts {W : World} {b : Nat} {F : Nat → Prop} {LsTexts : List (List ByteArray)} (h : BookHas W b F LsTexts) (u : Value) (L : List ByteArray) (hu : Sl W 9 1 L.length u ((L).map Value.string)) (hf : ∀ k, u.ownBlock = some k → ¬ F k) (hn : LsTexts.length < 250) (hl : L.length ≤ 90000) :
    Calls Tryz.prog 11 #[.pointer (some ⟨b, 0, none⟩), u] W fun e w' => e = .returned (.tuple #[]) ∧ ∃ F', BookHas w' b F' (LsTexts ++ [L]) ∧ Kept F W w' ∧ ∀ k, F' k → F k ∨ u.ownBlock = some k ∨ W.heap.size ≤ k := by
  obtain ⟨FTexts, F1Texts, F2Texts, VTexts, CTexts, vsTexts, csTexts, lenTexts, conTexts, hTexts, hb, hF⟩ := h
  have hn1 : ¬ F1Texts b := fun e => hTexts.out ((hTexts.iff b).2 (.inl e))
  have hn2 : ¬ F2Texts b := fun e => hTexts.out ((hTexts.iff b).2 (.inr e))
  refine (keepTexts_any b _ F1Texts F2Texts LsTexts.length VTexts CTexts vsTexts csTexts lenTexts conTexts u L W hTexts.kb hb rfl rfl hn1 hn2 hu (fun x hx => ⟨fun e => hf x hx ((hF x).2 (.inr ((hTexts.iff x).2 (.inl e)))), fun e => hf x hx ((hF x).2 (.inr ((hTexts.iff x).2 (.inr e)))), fun e => hf x hx ((hF x).2 (.inl e))⟩) hn (by omega)).mono ?_
  rintro e w' ⟨rfl, G1, G2, V, C, vs, cs, k1, k2, k3, k4, k5, k6⟩
  have hkk : Kept F W w' := k5.mono (fun x _ hx => by
    rcases hx with rfl | e | e
    · exact (hF _).2 (.inl rfl)
    · exact (hF x).2 (.inr ((hTexts.iff x).2 (.inl e)))
    · exact (hF x).2 (.inr ((hTexts.iff x).2 (.inr e))))
  have hG : ∀ x, G1 x ∨ G2 x → FTexts x ∨ u.ownBlock = some x ∨ W.heap.size ≤ x := fun x hx => by
    rcases k6 x hx with e | e | e | e
    · exact .inl ((hTexts.iff x).2 (.inl e))
    · exact .inl ((hTexts.iff x).2 (.inr e))
    · exact .inr (.inl e)
    · exact .inr (.inr e)
  have hK : KindTexts w' b (fun x => G1 x ∨ G2 x) G1 G2 V C (LsTexts ++ [L]) vs cs (fun j => if j = LsTexts.length then L.length else lenTexts j) (fun j => if j = LsTexts.length then ((L).map Value.string) else conTexts j) := by
    refine ⟨by rw [List.length_append]; exact k1, fun i hi => ?_, fun x => Iff.rfl, fun e => e.elim k3 k4, fun K hK => ?_⟩
    · by_cases e : i = LsTexts.length
      · subst e
        simp
      · rw [List.length_append] at hi
        have hi' : i < LsTexts.length := by simp at hi; omega
        rw [if_neg e, if_neg e, List.getElem_append_left hi']
        exact hTexts.lists i hi'
    · rcases List.mem_append.1 hK with e | e
      · exact hTexts.short K e
      · rw [List.mem_singleton.1 e]; exact hl
  refine ⟨rfl, fun x => x = b ∨ G1 x ∨ G2 x, ⟨_, _, _, _, _, _, _, _, _, hK, k2, fun x => Iff.rfl⟩, hkk, fun x hx => ?_⟩
  rcases hx with rfl | e
  · exact .inl ((hF _).2 (.inl rfl))
  · rcases hG x e with e | e | e
    · exact .inl ((hF x).2 (.inr e))
    · exact .inr (.inl e)
    · exact .inr (.inr e)

theorem BookHas.apart {W : World} {b : Nat} {F : Nat → Prop} {LsTexts : List (List ByteArray)} (h : BookHas W b F LsTexts) (hnTexts : LsTexts.length ≤ 1000) :
    Calls Tryz.prog 22 #[.pointer (some ⟨b, 0, none⟩)] W fun e w' => e = .returned (.bool true) ∧ Kept F W w' := by
  obtain ⟨FTexts, F1Texts, F2Texts, VTexts, CTexts, vsTexts, csTexts, lenTexts, conTexts, hTexts, hb, hF⟩ := h
  have hc := fun o => cell_at hb o
  refine (apart_any b F1Texts F2Texts _ VTexts CTexts vsTexts csTexts lenTexts conTexts LsTexts W hTexts.kb rfl hTexts.lists (fun e => hTexts.out ((hTexts.iff b).2 (.inl e))) hnTexts hTexts.short ⟨hc 2, hc 4, hc 6, hc 8, hc 10, hc 12, hc 0, hc 1⟩).mono ?_
  rintro e w' ⟨rfl, hk⟩
  refine ⟨rfl, hk.mono (fun x _ hx => ?_)⟩
  exact (hF x).2 (.inr ((hTexts.iff x).2 (.inl hx)))
end Go.Proofs.YtgfpcjieonniiaaGreat
