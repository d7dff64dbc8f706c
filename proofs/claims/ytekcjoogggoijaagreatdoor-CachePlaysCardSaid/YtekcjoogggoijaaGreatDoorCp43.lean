/-
  Three things of a call's own that share no block.
-/
import Derived.Test.YtekcjoogggoijaaGreatDoorCp41
import Derived.Test.YtekcjoogggoijaaGreatDoorCp42
import Derived.Test.YtekcjoogggoijaaGreatDoorCp01
set_option linter.unusedVariables false
set_option linter.unusedSimpArgs false
set_option linter.unnecessarySimpa false
namespace Go.Proofs.YtekcjoogggoijaaGreatDoor
open Go.RowKit

/-- The Book at block b, its lists; F holds all its blocks, R those that keeping turns. -/
def BookHas2 (W : World) (b : Nat) (F R : Nat → Prop) (LsTexts : List (List ByteArray)) (LsItems : List (List It)) : Prop :=
  ∃ FTexts F1Texts F2Texts VTexts CTexts vsTexts csTexts lenTexts conTexts FItems F1Items F2Items VItems CItems vsItems csItems lenItems conItems, KindTexts W b FTexts F1Texts F2Texts VTexts CTexts LsTexts vsTexts csTexts lenTexts conTexts ∧ KindItems W b FItems F1Items F2Items VItems CItems LsItems vsItems csItems lenItems conItems ∧ W.heap[b]? = some (.cells (bookArr VTexts CTexts VItems CItems) 37 (0, 0)) ∧ (∀ k, FTexts k → ¬ FItems k) ∧ (∀ k, F k ↔ k = b ∨ FTexts k ∨ FItems k) ∧ ∀ k, R k ↔ k = b ∨ VTexts.ownBlock = some k ∨ CTexts.ownBlock = some k ∨ VItems.ownBlock = some k ∨ CItems.ownBlock = some k
theorem BookHas2.new (W : World) : BookHas2 (W.alloc (.cells (bookArr (.slice none 0 0) (.slice none 0 0) (.slice none 0 0) (.slice none 0 0)) 37)) W.heap.size (fun k => k = W.heap.size) (fun k => k = W.heap.size) [] [] :=
  ⟨_, _, _, _, _, _, _, _, _, _, _, _, _, _, _, _, _, _, KindTexts.nil _ _, KindItems.nil _ _, heap_alloc_new _ _, fun _ h => h.elim, fun k => by simp, fun k => by simp [Value.ownBlock]⟩
theorem BookHas2.kept {W W2 : World} {b : Nat} {F R S : Nat → Prop} {LsTexts : List (List ByteArray)} {LsItems : List (List It)} (h : BookHas2 W b F R LsTexts LsItems) (hk : Kept S W W2) (hS : ∀ k, F k → ¬ S k) : BookHas2 W2 b F R LsTexts LsItems := by
  obtain ⟨FTexts, F1Texts, F2Texts, VTexts, CTexts, vsTexts, csTexts, lenTexts, conTexts, FItems, F1Items, F2Items, VItems, CItems, vsItems, csItems, lenItems, conItems, hTexts, hItems, hb, hd, hF, hR⟩ := h
  exact ⟨_, _, _, _, _, _, _, _, _, _, _, _, _, _, _, _, _, _, hTexts.kept hk (fun k hk => hS k ((hF k).2 (.inr (.inl hk)))), hItems.kept hk (fun k hk => hS k ((hF k).2 (.inr (.inr hk)))), (hk.block b (lt_of_block hb) (hS b ((hF b).2 (.inl rfl)))).trans hb, hd, hF, hR⟩
theorem BookHas2.lt {W : World} {b : Nat} {F R : Nat → Prop} {LsTexts : List (List ByteArray)} {LsItems : List (List It)} (h : BookHas2 W b F R LsTexts LsItems) (k : Nat) (hk : F k) : k < W.heap.size := by
  obtain ⟨FTexts, F1Texts, F2Texts, VTexts, CTexts, vsTexts, csTexts, lenTexts, conTexts, FItems, F1Items, F2Items, VItems, CItems, vsItems, csItems, lenItems, conItems, hTexts, hItems, hb, hd, hF, hR⟩ := h
  rcases (hF k).1 hk with rfl | e | e
  · exact lt_of_block hb
  · exact hTexts.lt k e
  · exact hItems.lt k e

/-- One more list of texts. -/
theorem BookHas2.keepTexts {W : World} {b : Nat} {F R : Nat → Prop} {LsTexts : List (List ByteArray)} {LsItems : List (List It)} (h : BookHas2 W b F R LsTexts LsItems) (u : Value) (L : List ByteArray) (hu : Sl W 9 1 L.length u ((L).map Value.string)) (hf : ∀ k, u.ownBlock = some k → ¬ F k) (hn : LsTexts.length < 250) (hl : L.length ≤ 90000) :
    Calls Tryz.prog 10 #[.pointer (some ⟨b, 0, none⟩), u] W fun e w' => e = .returned (.tuple #[]) ∧ ∃ F' R', BookHas2 w' b F' R' (LsTexts ++ [L]) LsItems ∧ Kept R W w' ∧ (∀ k, F' k → F k ∨ u.ownBlock = some k ∨ W.heap.size ≤ k) ∧ ∀ k, R' k → R k ∨ W.heap.size ≤ k := by
  obtain ⟨FTexts, F1Texts, F2Texts, VTexts, CTexts, vsTexts, csTexts, lenTexts, conTexts, FItems, F1Items, F2Items, VItems, CItems, vsItems, csItems, lenItems, conItems, hTexts, hItems, hb, hd, hF, hR⟩ := h
  have hn1 : ¬ F1Texts b := fun e => hTexts.out ((hTexts.iff b).2 (.inl e))
  have hn2 : ¬ F2Texts b := fun e => hTexts.out ((hTexts.iff b).2 (.inr e))
  refine (keepTexts_any2 b _ F1Texts F2Texts LsTexts.length VTexts CTexts vsTexts csTexts lenTexts conTexts u L W hTexts.kb hb rfl rfl hn1 hn2 hu (fun x hx => ⟨fun e => hf x hx ((hF x).2 (.inr (.inl ((hTexts.iff x).2 (.inl e))))), fun e => hf x hx ((hF x).2 (.inr (.inl ((hTexts.iff x).2 (.inr e))))), fun e => hf x hx ((hF x).2 (.inl e))⟩) hn (by omega)).mono ?_
  rintro e w' ⟨rfl, G1, G2, V, C, vs, cs, k1, k2, k3, k4, k5, k6, k7⟩
  have hkk : Kept R W w' := k5.mono (fun x _ hx => by
    rcases hx with rfl | e | e
    · exact (hR _).2 (.inl rfl)
    · exact (hR x).2 (.inr (.inl e))
    · exact (hR x).2 (.inr (.inr (.inl e))))
  have hG : ∀ x, G1 x ∨ G2 x → FTexts x ∨ u.ownBlock = some x ∨ W.heap.size ≤ x := fun x hx => by
    rcases k6 x hx with e | e | e | e
    · exact .inl ((hTexts.iff x).2 (.inl e))
    · exact .inl ((hTexts.iff x).2 (.inr e))
    · exact .inr (.inl e)
    · exact .inr (.inr e)
  have hK : KindTexts w' b (fun x => G1 x ∨ G2 x) G1 G2 V C (LsTexts ++ [L]) vs cs (fun j => if j = LsTexts.length then L.length else lenTexts j) (fun j => if j = LsTexts.length then ((L).map Value.string) else conTexts j) := by
    refine ⟨by rw [List.length_append]; exact k1, fun i hi => ?_, fun x => Iff.rfl, fun e => e.elim k3 k4, fun K hK => ?_⟩
    · by_cases e : i = LsTexts.length
      · subst e
        simp
      · rw [List.length_append] at hi
        have hi' : i < LsTexts.length := by simp at hi; omega
        rw [if_neg e, if_neg e, List.getElem_append_left hi']
        exact hTexts.lists i hi'
    · rcases List.mem_append.1 hK with e | e
      · exact hTexts.short K e
      · rw [List.mem_singleton.1 e]; exact hl
  have hdd : ∀ x, FTexts x → ¬ FItems x := (fun x hx hj => hd x hx hj)
  have hGj : ∀ x, G1 x ∨ G2 x → ¬ FItems x := fun x hx hj => by
    rcases hG x hx with e | e | e
    · exact hdd x e hj
    · exact hf x e ((hF x).2 (.inr (.inr hj)))
    · have := hItems.lt x hj; omega
  have hKj := hItems.kept k5 (fun x hx e => by
    rcases e with rfl | e | e
    · exact hItems.out hx
    · exact hdd x ((hTexts.iff x).2 (.inl (hTexts.kb.v.rowF x e))) hx
    · exact hdd x ((hTexts.iff x).2 (.inr (hTexts.kb.c.rowF x e))) hx)
  refine ⟨rfl, fun x => x = b ∨ (G1 x ∨ G2 x) ∨ FItems x, fun x => x = b ∨ V.ownBlock = some x ∨ C.ownBlock = some x ∨ VItems.ownBlock = some x ∨ CItems.ownBlock = some x, ⟨_, _, _, _, _, _, _, _, _, _, _, _, _, _, _, _, _, _, hK, hKj, k2, hGj, fun x => Iff.rfl, fun x => Iff.rfl⟩, hkk, fun x hx => ?_, fun x hx => by
    rcases hx with e | e | e | e | e
    · exact .inl ((hR x).2 (.inl e))
    · rcases k7 x (.inl e) with e | e | e
      · exact .inl ((hR x).2 (.inr (.inl e)))
      · exact .inl ((hR x).2 (.inr (.inr (.inl e))))
      · exact .inr e
    · rcases k7 x (.inr e) with e | e | e
      · exact .inl ((hR x).2 (.inr (.inl e)))
      · exact .inl ((hR x).2 (.inr (.inr (.inl e))))
      · exact .inr e
    · exact .inl ((hR x).2 (.inr (.inr (.inr (.inl e)))))
    · exact .inl ((hR x).2 (.inr (.inr (.inr (.inr e)))))⟩
  rcases hx with rfl | e | e
  · exact .inl ((hF _).2 (.inl rfl))
  · rcases hG x e with e | e | e
    · exact .inl ((hF x).2 (.inr (.inl e)))
    · exact .inr (.inl e)
    · exact .inr (.inr e)
  · exact .inl ((hF x).2 (.inr (.inr e)))

/-- One more list of items. -/
theorem BookHas2.keepItems {W : World} {b : Nat} {F R : Nat → Prop} {LsTexts : List (List ByteArray)} {LsItems : List (List It)} (h : BookHas2 W b F R LsTexts LsItems) (u : Value) (L : List It) (hu : Sl W 44 4 L.length u (flat (L))) (hf : ∀ k, u.ownBlock = some k → ¬ F k) (hn : LsItems.length < 250) (hl : L.length ≤ 90000) :
    Calls Tryz.prog 13 #[.pointer (some ⟨b, 0, none⟩), u] W fun e w' => e = .returned (.tuple #[]) ∧ ∃ F' R', BookHas2 w' b F' R' LsTexts (LsItems ++ [L]) ∧ Kept R W w' ∧ (∀ k, F' k → F k ∨ u.ownBlock = some k ∨ W.heap.size ≤ k) ∧ ∀ k, R' k → R k ∨ W.heap.size ≤ k := by
  obtain ⟨FTexts, F1Texts, F2Texts, VTexts, CTexts, vsTexts, csTexts, lenTexts, conTexts, FItems, F1Items, F2Items, VItems, CItems, vsItems, csItems, lenItems, conItems, hTexts, hItems, hb, hd, hF, hR⟩ := h
  have hn1 : ¬ F1Items b := fun e => hItems.out ((hItems.iff b).2 (.inl e))
  have hn2 : ¬ F2Items b := fun e => hItems.out ((hItems.iff b).2 (.inr e))
  refine (keepItems_any2 b _ F1Items F2Items LsItems.length VItems CItems vsItems csItems lenItems conItems u L W hItems.kb hb rfl rfl hn1 hn2 hu (fun x hx => ⟨fun e => hf x hx ((hF x).2 (.inr (.inr ((hItems.iff x).2 (.inl e))))), fun e => hf x hx ((hF x).2 (.inr (.inr ((hItems.iff x).2 (.inr e))))), fun e => hf x hx ((hF x).2 (.inl e))⟩) hn (by omega)).mono ?_
  rintro e w' ⟨rfl, G1, G2, V, C, vs, cs, k1, k2, k3, k4, k5, k6, k7⟩
  have hkk : Kept R W w' := k5.mono (fun x _ hx => by
    rcases hx with rfl | e | e
    · exact (hR _).2 (.inl rfl)
    · exact (hR x).2 (.inr (.inr (.inr (.inl e))))
    · exact (hR x).2 (.inr (.inr (.inr (.inr e)))))
  have hG : ∀ x, G1 x ∨ G2 x → FItems x ∨ u.ownBlock = some x ∨ W.heap.size ≤ x := fun x hx => by
    rcases k6 x hx with e | e | e | e
    · exact .inl ((hItems.iff x).2 (.inl e))
    · exact .inl ((hItems.iff x).2 (.inr e))
    · exact .inr (.inl e)
    · exact .inr (.inr e)
  have hK : KindItems w' b (fun x => G1 x ∨ G2 x) G1 G2 V C (LsItems ++ [L]) vs cs (fun j => if j = LsItems.length then L.length else lenItems j) (fun j => if j = LsItems.length then (flat (L)) else conItems j) := by
    refine ⟨by rw [List.length_append]; exact k1, fun i hi => ?_, fun x => Iff.rfl, fun e => e.elim k3 k4, fun K hK => ?_⟩
    · by_cases e : i = LsItems.length
      · subst e
        simp
      · rw [List.length_append] at hi
        have hi' : i < LsItems.length := by simp at hi; omega
        rw [if_neg e, if_neg e, List.getElem_append_left hi']
        exact hItems.lists i hi'
    · rcases List.mem_append.1 hK with e | e
      · exact hItems.short K e
      · rw [List.mem_singleton.1 e]; exact hl
  have hdd : ∀ x, FItems x → ¬ FTexts x := (fun x hx hj => hd x hj hx)
  have hGj : ∀ x, G1 x ∨ G2 x → ¬ FTexts x := fun x hx hj => by
    rcases hG x hx with e | e | e
    · exact hdd x e hj
    · exact hf x e ((hF x).2 (.inr (.inl hj)))
    · have := hTexts.lt x hj; omega
  have hKj := hTexts.kept k5 (fun x hx e => by
    rcases e with rfl | e | e
    · exact hTexts.out hx
    · exact hdd x ((hItems.iff x).2 (.inl (hItems.kb.v.rowF x e))) hx
    · exact hdd x ((hItems.iff x).2 (.inr (hItems.kb.c.rowF x e))) hx)
  refine ⟨rfl, fun x => x = b ∨ FTexts x ∨ (G1 x ∨ G2 x), fun x => x = b ∨ VTexts.ownBlock = some x ∨ CTexts.ownBlock = some x ∨ V.ownBlock = some x ∨ C.ownBlock = some x, ⟨_, _, _, _, _, _, _, _, _, _, _, _, _, _, _, _, _, _, hKj, hK, k2, fun x hj hx => hGj x hx hj, fun x => Iff.rfl, fun x => Iff.rfl⟩, hkk, fun x hx => ?_, fun x hx => by
    rcases hx with e | e | e | e | e
    · exact .inl ((hR x).2 (.inl e))
    · exact .inl ((hR x).2 (.inr (.inl e)))
    · exact .inl ((hR x).2 (.inr (.inr (.inl e))))
    · rcases k7 x (.inl e) with e | e | e
      · exact .inl ((hR x).2 (.inr (.inr (.inr (.inl e)))))
      · exact .inl ((hR x).2 (.inr (.inr (.inr (.inr e)))))
      · exact .inr e
    · rcases k7 x (.inr e) with e | e | e
      · exact .inl ((hR x).2 (.inr (.inr (.inr (.inl e)))))
      · exact .inl ((hR x).2 (.inr (.inr (.inr (.inr e)))))
      · exact .inr e⟩
  rcases hx with rfl | e | e
  · exact .inl ((hF _).2 (.inl rfl))
  · exact .inl ((hF x).2 (.inr (.inl e)))
  · rcases hG x e with e | e | e
    · exact .inl ((hF x).2 (.inr (.inr e)))
    · exact .inr (.inl e)
    · exact .inr (.inr e)

theorem BookHas2.apart {W : World} {b : Nat} {F R : Nat → Prop} {LsTexts : List (List ByteArray)} {LsItems : List (List It)} (h : BookHas2 W b F R LsTexts LsItems) (hnTexts : LsTexts.length ≤ 1000) (hnItems : LsItems.length ≤ 1000) :
    Calls Tryz.prog 22 #[.pointer (some ⟨b, 0, none⟩)] W fun e w' => e = .returned (.bool true) ∧ Kept F W w' := by
  obtain ⟨FTexts, F1Texts, F2Texts, VTexts, CTexts, vsTexts, csTexts, lenTexts, conTexts, FItems, F1Items, F2Items, VItems, CItems, vsItems, csItems, lenItems, conItems, hTexts, hItems, hb, hd, hF, hR⟩ := h
  have hc := fun o => cell_at hb o
  refine (apart_any b F1Texts F2Texts _ VTexts CTexts vsTexts csTexts lenTexts conTexts LsTexts F1Items F2Items _ VItems CItems vsItems csItems lenItems conItems LsItems W hTexts.kb rfl hTexts.lists (fun e => hTexts.out ((hTexts.iff b).2 (.inl e))) hnTexts hTexts.short hItems.kb rfl hItems.lists (fun e => hItems.out ((hItems.iff b).2 (.inl e))) hnItems hItems.short (fun x h1 h2 => hd x ((hTexts.iff x).2 (.inl h1)) ((hItems.iff x).2 (.inl h2))) (fun x h1 h2 => hd x ((hTexts.iff x).2 (.inl h2)) ((hItems.iff x).2 (.inl h1))) ⟨hc 2, hc 4, hc 6, hc 10, hc 12, hc 0, hc 1, hc 8, hc 9⟩).mono ?_
  rintro e w' ⟨rfl, hk⟩
  refine ⟨rfl, hk.mono (fun x _ hx => ?_)⟩
  rcases hx with e | e
  · exact (hF x).2 (.inr (.inl ((hTexts.iff x).2 (.inl e))))
  · exact (hF x).2 (.inr (.inr ((hItems.iff x).2 (.inl e))))
end Go.Proofs.YtekcjoogggoijaaGreatDoor
namespace Go.Proofs.YtekcjoogggoijaaGreatDoor
open Go.RowKit

structure Tri (w wr : World) (A B C : Nat → Prop) : Prop where
  kept : Kept (fun _ => False) w wr
  new : ∀ k, A k ∨ B k ∨ C k → w.heap.size ≤ k
  lt : ∀ k, A k ∨ B k ∨ C k → k < wr.heap.size
  ab : ∀ k, A k → ¬ B k
  ac : ∀ k, A k → ¬ C k
  bc : ∀ k, B k → ¬ C k

section
variable {w wr w2 : World} {A B C A' B' C' : Nat → Prop}
theorem Tri.keep (h : Tri w wr A B C) (hk : Kept (fun _ => False) wr w2) : Tri w w2 A B C :=
  ⟨h.kept.trans hk (fun _ _ h => h), h.new, fun k hk' => Nat.lt_of_lt_of_le (h.lt k hk') hk.size, h.ab, h.ac, h.bc⟩
theorem Tri.turn1 (h : Tri w wr A B C) (hk : Kept A wr w2) (hA : ∀ k, A' k → A k ∨ wr.heap.size ≤ k) (hlt : ∀ k, A' k → k < w2.heap.size) : Tri w w2 A' B C := by
  have hz := h.kept.size
  refine ⟨h.kept.trans hk (fun k hk' hA => by have := h.new k (.inl hA); omega), fun k hk' => ?_, fun k hk' => ?_, fun k hk' hb => ?_, fun k hk' hc => ?_, h.bc⟩
  · rcases hk' with e | e
    · rcases hA k e with e | e
      · exact h.new k (.inl e)
      · omega
    · exact h.new k (.inr e)
  · rcases hk' with e | e
    · exact hlt k e
    · exact Nat.lt_of_lt_of_le (h.lt k (.inr e)) hk.size
  · rcases hA k hk' with e | e
    · exact h.ab k e hb
    · have := h.lt k (.inr (.inl hb)); omega
  · rcases hA k hk' with e | e
    · exact h.ac k e hc
    · have := h.lt k (.inr (.inr hc)); omega
theorem Tri.rot (h : Tri w wr A B C) : Tri w wr B C A :=
  ⟨h.kept, fun k hk => h.new k (by rcases hk with e | e | e <;> simp [e]), fun k hk => h.lt k (by rcases hk with e | e | e <;> simp [e]), h.bc, fun k hb ha => h.ab k ha hb, fun k hc ha => h.ac k ha hc⟩
theorem Tri.turn2 (h : Tri w wr A B C) (hk : Kept B wr w2) (hB : ∀ k, B' k → B k ∨ wr.heap.size ≤ k) (hlt : ∀ k, B' k → k < w2.heap.size) : Tri w w2 A B' C := (h.rot.turn1 hk hB hlt).rot.rot
theorem Tri.turn3 (h : Tri w wr A B C) (hk : Kept C wr w2) (hC : ∀ k, C' k → C k ∨ wr.heap.size ≤ k) (hlt : ∀ k, C' k → k < w2.heap.size) : Tri w w2 A B C' := (h.rot.rot.turn1 hk hC hlt).rot
theorem Tri.start (hk : Kept (fun _ => False) w wr) : Tri w wr (fun _ => False) (fun _ => False) (fun _ => False) :=
  ⟨hk, fun k h => by rcases h with h | h | h <;> exact h.elim, fun k h => by rcases h with h | h | h <;> exact h.elim, fun _ h => h.elim, fun _ h => h.elim, fun _ h => h.elim⟩
/-- What the third one does not hold is not touched where the third one turns. -/
theorem Tri.not3 (h : Tri w wr A B C) : (∀ k, A k → ¬ C k) ∧ ∀ k, B k → ¬ C k := ⟨h.ac, h.bc⟩
end
end Go.Proofs.YtekcjoogggoijaaGreatDoor
