/-
  Keeping a list and its copy in a Book, telling that no row but the Book's own turns.
-/
import Derived.Test.YtekcjoogggoijaaGreatDoorCp40
import Derived.Test.YtekcjoogggoijaaGreatDoorCp35
set_option linter.unusedVariables false
set_option linter.unusedSimpArgs false
set_option linter.unnecessarySimpa false
namespace Go.Proofs.YtekcjoogggoijaaGreatDoor
open Go.RowKit

def bookArr (VTexts CTexts VItems CItems : Value) : Array Value := #[VTexts, CTexts, .slice none 0 0, .slice none 0 0, .slice none 0 0, .slice none 0 0, .slice none 0 0, .slice none 0 0, VItems, CItems, .slice none 0 0, .slice none 0 0, .slice none 0 0, .slice none 0 0]
/-- What one kind of list is, of a Book: the lists and the copies, in blocks of F. -/
structure KindTexts (W : World) (b : Nat) (F F1 F2 : Nat → Prop) (V C : Value) (Ls : List (List ByteArray)) (vs cs : List Value) (len : Nat → Nat) (con : Nat → List Value) : Prop where
  kb : Kb W 49 9 1 F1 F2 Ls.length V C vs cs len con
  lists : ∀ (i : Nat) (hi : i < Ls.length), len i = (Ls[i]).length ∧ con i = ((Ls[i]).map Value.string)
  iff : ∀ k, F k ↔ F1 k ∨ F2 k
  out : ¬ F b
  short : ∀ L ∈ Ls, L.length ≤ 90000
theorem KindTexts.nil (W : World) (b : Nat) : KindTexts W b (fun _ => False) (fun _ => False) (fun _ => False) (.slice none 0 0) (.slice none 0 0) [] [] [] (fun _ => 0) (fun _ => []) :=
  ⟨⟨Kd.nil _ _ _ _ _ _, Kd.nil _ _ _ _ _ _, fun _ h => h.elim⟩, fun i hi => by simp at hi, fun k => by simp, fun h => h, fun L hL => by simp at hL⟩
theorem KindTexts.kept {W W2 : World} {b : Nat} {F F1 F2 S : Nat → Prop} {V C : Value} {Ls : List (List ByteArray)} {vs cs : List Value} {len : Nat → Nat} {con : Nat → List Value} (h : KindTexts W b F F1 F2 V C Ls vs cs len con) (hk : Kept S W W2) (hS : ∀ k, F k → ¬ S k) : KindTexts W2 b F F1 F2 V C Ls vs cs len con :=
  ⟨h.kb.kept hk (fun k hk => hS k ((h.iff k).2 hk)), h.lists, h.iff, h.out, h.short⟩
theorem KindTexts.lt {W : World} {b : Nat} {F F1 F2 : Nat → Prop} {V C : Value} {Ls : List (List ByteArray)} {vs cs : List Value} {len : Nat → Nat} {con : Nat → List Value} (h : KindTexts W b F F1 F2 V C Ls vs cs len con) (k : Nat) (hk : F k) : k < W.heap.size := by
  rcases (h.iff k).1 hk with e | e
  · exact h.kb.v.lt k e
  · exact h.kb.c.lt k e
structure KindItems (W : World) (b : Nat) (F F1 F2 : Nat → Prop) (V C : Value) (Ls : List (List It)) (vs cs : List Value) (len : Nat → Nat) (con : Nat → List Value) : Prop where
  kb : Kb W 45 44 4 F1 F2 Ls.length V C vs cs len con
  lists : ∀ (i : Nat) (hi : i < Ls.length), len i = (Ls[i]).length ∧ con i = (flat (Ls[i]))
  iff : ∀ k, F k ↔ F1 k ∨ F2 k
  out : ¬ F b
  short : ∀ L ∈ Ls, L.length ≤ 90000
theorem KindItems.nil (W : World) (b : Nat) : KindItems W b (fun _ => False) (fun _ => False) (fun _ => False) (.slice none 0 0) (.slice none 0 0) [] [] [] (fun _ => 0) (fun _ => []) :=
  ⟨⟨Kd.nil _ _ _ _ _ _, Kd.nil _ _ _ _ _ _, fun _ h => h.elim⟩, fun i hi => by simp at hi, fun k => by simp, fun h => h, fun L hL => by simp at hL⟩
theorem KindItems.kept {W W2 : World} {b : Nat} {F F1 F2 S : Nat → Prop} {V C : Value} {Ls : List (List It)} {vs cs : List Value} {len : Nat → Nat} {con : Nat → List Value} (h : KindItems W b F F1 F2 V C Ls vs cs len con) (hk : Kept S W W2) (hS : ∀ k, F k → ¬ S k) : KindItems W2 b F F1 F2 V C Ls vs cs len con :=
  ⟨h.kb.kept hk (fun k hk => hS k ((h.iff k).2 hk)), h.lists, h.iff, h.out, h.short⟩
theorem KindItems.lt {W : World} {b : Nat} {F F1 F2 : Nat → Prop} {V C : Value} {Ls : List (List It)} {vs cs : List Value} {len : Nat → Nat} {con : Nat → List Value} (h : KindItems W b F F1 F2 V C Ls vs cs len con) (k : Nat) (hk : F k) : k < W.heap.size := by
  rcases (h.iff k).1 hk with e | e
  · exact h.kb.v.lt k e
  · exact h.kb.c.lt k e

/-- The Book at block b, its lists; F holds all its blocks. -/
def BookHas (W : World) (b : Nat) (F : Nat → Prop) (LsTexts : List (List ByteArray)) (LsItems : List (List It)) : Prop :=
  ∃ FTexts F1Texts F2Texts VTexts CTexts vsTexts csTexts lenTexts conTexts FItems F1Items F2Items VItems CItems vsItems csItems lenItems conItems, KindTexts W b FTexts F1Texts F2Texts VTexts CTexts LsTexts vsTexts csTexts lenTexts conTexts ∧ KindItems W b FItems F1Items F2Items VItems CItems LsItems vsItems csItems lenItems conItems ∧ W.heap[b]? = some (.cells (bookArr VTexts CTexts VItems CItems) 37 (0, 0)) ∧ (∀ k, FTexts k → ¬ FItems k) ∧ ∀ k, F k ↔ k = b ∨ FTexts k ∨ FItems k
theorem BookHas.new (W : World) : BookHas (W.alloc (.cells (bookArr (.slice none 0 0) (.slice none 0 0) (.slice none 0 0) (.slice none 0 0)) 37)) W.heap.size (fun k => k = W.heap.size) [] [] :=
  ⟨_, _, _, _, _, _, _, _, _, _, _, _, _, _, _, _, _, _, KindTexts.nil _ _, KindItems.nil _ _, heap_alloc_new _ _, fun _ h => h.elim, fun k => by simp⟩
theorem BookHas.kept {W W2 : World} {b : Nat} {F S : Nat → Prop} {LsTexts : List (List ByteArray)} {LsItems : List (List It)} (h : BookHas W b F LsTexts LsItems) (hk : Kept S W W2) (hS : ∀ k, F k → ¬ S k) : BookHas W2 b F LsTexts LsItems := by
  obtain ⟨FTexts, F1Texts, F2Texts, VTexts, CTexts, vsTexts, csTexts, lenTexts, conTexts, FItems, F1Items, F2Items, VItems, CItems, vsItems, csItems, lenItems, conItems, hTexts, hItems, hb, hd, hF⟩ := h
  exact ⟨_, _, _, _, _, _, _, _, _, _, _, _, _, _, _, _, _, _, hTexts.kept hk (fun k hk => hS k ((hF k).2 (.inr (.inl hk)))), hItems.kept hk (fun k hk => hS k ((hF k).2 (.inr (.inr hk)))), (hk.block b (lt_of_block hb) (hS b ((hF b).2 (.inl rfl)))).trans hb, hd, hF⟩
theorem BookHas.lt {W : World} {b : Nat} {F : Nat → Prop} {LsTexts : List (List ByteArray)} {LsItems : List (List It)} (h : BookHas W b F LsTexts LsItems) (k : Nat) (hk : F k) : k < W.heap.size := by
  obtain ⟨FTexts, F1Texts, F2Texts, VTexts, CTexts, vsTexts, csTexts, lenTexts, conTexts, FItems, F1Items, F2Items, VItems, CItems, vsItems, csItems, lenItems, conItems, hTexts, hItems, hb, hd, hF⟩ := h
  rcases (hF k).1 hk with rfl | e | e
  · exact lt_of_block hb
  · exact hTexts.lt k e
  · exact hItems.lt k e

/-- One more list of texts. -/
theorem BookHas.keepTexts {W : World} {b : Nat} {F : Nat → Prop} {LsTexts : List (List ByteArray)} {LsItems : List (List It)} (h : BookHas W b F LsTexts LsItems) (u : Value) (L : List ByteArray) (hu : Sl W 9 1 L.length u ((L).map Value.string)) (hf : ∀ k, u.ownBlock = some k → ¬ F k) (hn : LsTexts.length < 250) (hl : L.length ≤ 90000) :
    Calls Tryz.prog 10 #[.pointer (some ⟨b, 0, none⟩), u] W fun e w' => e = .returned (.tuple #[]) ∧ ∃ F', BookHas w' b F' (LsTexts ++ [L]) LsItems ∧ Kept F W w' ∧ ∀ k, F' k → F k ∨ u.ownBlock = some k ∨ W.heap.size ≤ k := by
  obtain ⟨FTexts, F1Texts, F2Texts, VTexts, CTexts, vsTexts, csTexts, lenTexts, conTexts, FItems, F1Items, F2Items, VItems, CItems, vsItems, csItems, lenItems, conItems, hTexts, hItems, hb, hd, hF⟩ := h
  have hn1 : ¬ F1Texts b := fun e => hTexts.out ((hTexts.iff b).2 (.inl e))
  have hn2 : ¬ F2Texts b := fun e => hTexts.out ((hTexts.iff b).2 (.inr e))
  refine (keepTexts_any b _ F1Texts F2Texts LsTexts.length VTexts CTexts vsTexts csTexts lenTexts conTexts u L W hTexts.kb hb rfl rfl hn1 hn2 hu (fun x hx => ⟨fun e => hf x hx ((hF x).2 (.inr (.inl ((hTexts.iff x).2 (.inl e))))), fun e => hf x hx ((hF x).2 (.inr (.inl ((hTexts.iff x).2 (.inr e))))), fun e => hf x hx ((hF x).2 (.inl e))⟩) hn (by omega)).mono ?_
  rintro e w' ⟨rfl, G1, G2, V, C, vs, cs, k1, k2, k3, k4, k5, k6⟩
  have hkk : Kept F W w' := k5.mono (fun x _ hx => by
    rcases hx with rfl | e | e
    · exact (hF _).2 (.inl rfl)
    · exact (hF x).2 (.inr (.inl ((hTexts.iff x).2 (.inl e))))
    · exact (hF x).2 (.inr (.inl ((hTexts.iff x).2 (.inr e)))))
  have hG : ∀ x, G1 x ∨ G2 x → FTexts x ∨ u.ownBlock = some x ∨ W.heap.size ≤ x := fun x hx => by
    rcases k6 x hx with e | e | e | e
    · exact .inl ((hTexts.iff x).2 (.inl e))
    · exact .inl ((hTexts.iff x).2 (.inr e))
    · exact .inr (.inl e)
    · exact .inr (.inr e)
  have hK : KindTexts w' b (fun x => G1 x ∨ G2 x) G1 G2 V C (LsTexts ++ [L]) vs cs (fun j => if j = LsTexts.length then L.length else lenTexts j) (fun j => if j = LsTexts.length then ((L).map Value.string) else conTexts j) := by
    refine ⟨by rw [List.length_append]; exact k1, fun i hi => ?_, fun x => Iff.rfl, fun e => e.elim k3 k4, fun K hK => ?_⟩
    · by_cases e : i = LsTexts.length
      · subst e
        simp
      · rw [List.length_append] at hi
        have hi' : i < LsTexts.length := by simp at hi; omega
        rw [if_neg e, if_neg e, List.getElem_append_left hi']
        exact hTexts.lists i hi'
    · rcases List.mem_append.1 hK with e | e
      · exact hTexts.short K e
      · rw [List.mem_singleton.1 e]; exact hl
  have hdd : ∀ x, FTexts x → ¬ FItems x := (fun x hx hj => hd x hx hj)
  have hGj : ∀ x, G1 x ∨ G2 x → ¬ FItems x := fun x hx hj => by
    rcases hG x hx with e | e | e
    · exact hdd x e hj
    · exact hf x e ((hF x).2 (.inr (.inr hj)))
    · have := hItems.lt x hj; omega
  have hKj := hItems.kept k5 (fun x hx e => by
    rcases e with rfl | e | e
    · exact hItems.out hx
    · exact hdd x ((hTexts.iff x).2 (.inl e)) hx
    · exact hdd x ((hTexts.iff x).2 (.inr e)) hx)
  refine ⟨rfl, fun x => x = b ∨ (G1 x ∨ G2 x) ∨ FItems x, ⟨_, _, _, _, _, _, _, _, _, _, _, _, _, _, _, _, _, _, hK, hKj, k2, hGj, fun x => Iff.rfl⟩, hkk, fun x hx => ?_⟩
  rcases hx with rfl | e | e
  · exact .inl ((hF _).2 (.inl rfl))
  · rcases hG x e with e | e | e
    · exact .inl ((hF x).2 (.inr (.inl e)))
    · exact .inr (.inl e)
    · exact .inr (.inr e)
  · exact .inl ((hF x).2 (.inr (.inr e)))

/-- One more list of items. -/
theorem BookHas.keepItems {W : World} {b : Nat} {F : Nat → Prop} {LsTexts : List (List ByteArray)} {LsItems : List (List It)} (h : BookHas W b F LsTexts LsItems) (u : Value) (L : List It) (hu : Sl W 44 4 L.length u (flat (L))) (hf : ∀ k, u.ownBlock = some k → ¬ F k) (hn : LsItems.length < 250) (hl : L.length ≤ 90000) :
    Calls Tryz.prog 13 #[.pointer (some ⟨b, 0, none⟩), u] W fun e w' => e = .returned (.tuple #[]) ∧ ∃ F', BookHas w' b F' LsTexts (LsItems ++ [L]) ∧ Kept F W w' ∧ ∀ k, F' k → F k ∨ u.ownBlock = some k ∨ W.heap.size ≤ k := by
  obtain ⟨FTexts, F1Texts, F2Texts, VTexts, CTexts, vsTexts, csTexts, lenTexts, conTexts, FItems, F1Items, F2Items, VItems, CItems, vsItems, csItems, lenItems, conItems, hTexts, hItems, hb, hd, hF⟩ := h
  have hn1 : ¬ F1Items b := fun e => hItems.out ((hItems.iff b).2 (.inl e))
  have hn2 : ¬ F2Items b := fun e => hItems.out ((hItems.iff b).2 (.inr e))
  refine (keepItems_any b _ F1Items F2Items LsItems.length VItems CItems vsItems csItems lenItems conItems u L W hItems.kb hb rfl rfl hn1 hn2 hu (fun x hx => ⟨fun e => hf x hx ((hF x).2 (.inr (.inr ((hItems.iff x).2 (.inl e))))), fun e => hf x hx ((hF x).2 (.inr (.inr ((hItems.iff x).2 (.inr e))))), fun e => hf x hx ((hF x).2 (.inl e))⟩) hn (by omega)).mono ?_
  rintro e w' ⟨rfl, G1, G2, V, C, vs, cs, k1, k2, k3, k4, k5, k6⟩
  have hkk : Kept F W w' := k5.mono (fun x _ hx => by
    rcases hx with rfl | e | e
    · exact (hF _).2 (.inl rfl)
    · exact (hF x).2 (.inr (.inr ((hItems.iff x).2 (.inl e))))
    · exact (hF x).2 (.inr (.inr ((hItems.iff x).2 (.inr e)))))
  have hG : ∀ x, G1 x ∨ G2 x → FItems x ∨ u.ownBlock = some x ∨ W.heap.size ≤ x := fun x hx => by
    rcases k6 x hx with e | e | e | e
    · exact .inl ((hItems.iff x).2 (.inl e))
    · exact .inl ((hItems.iff x).2 (.inr e))
    · exact .inr (.inl e)
    · exact .inr (.inr e)
  have hK : KindItems w' b (fun x => G1 x ∨ G2 x) G1 G2 V C (LsItems ++ [L]) vs cs (fun j => if j = LsItems.length then L.length else lenItems j) (fun j => if j = LsItems.length then (flat (L)) else conItems j) := by
    refine ⟨by rw [List.length_append]; exact k1, fun i hi => ?_, fun x => Iff.rfl, fun e => e.elim k3 k4, fun K hK => ?_⟩
    · by_cases e : i = LsItems.length
      · subst e
        simp
      · rw [List.length_append] at hi
        have hi' : i < LsItems.length := by simp at hi; omega
        rw [if_neg e, if_neg e, List.getElem_append_left hi']
        exact hItems.lists i hi'
    · rcases List.mem_append.1 hK with e | e
      · exact hItems.short K e
      · rw [List.mem_singleton.1 e]; exact hl
  have hdd : ∀ x, FItems x → ¬ FTexts x := (fun x hx hj => hd x hj hx)
  have hGj : ∀ x, G1 x ∨ G2 x → ¬ FTexts x := fun x hx hj => by
    rcases hG x hx with e | e | e
    · exact hdd x e hj
    · exact hf x e ((hF x).2 (.inr (.inl hj)))
    · have := hTexts.lt x hj; omega
  have hKj := hTexts.kept k5 (fun x hx e => by
    rcases e with rfl | e | e
    · exact hTexts.out hx
    · exact hdd x ((hItems.iff x).2 (.inl e)) hx
    · exact hdd x ((hItems.iff x).2 (.inr e)) hx)
  refine ⟨rfl, fun x => x = b ∨ FTexts x ∨ (G1 x ∨ G2 x), ⟨_, _, _, _, _, _, _, _, _, _, _, _, _, _, _, _, _, _, hKj, hK, k2, fun x hj hx => hGj x hx hj, fun x => Iff.rfl⟩, hkk, fun x hx => ?_⟩
  rcases hx with rfl | e | e
  · exact .inl ((hF _).2 (.inl rfl))
  · exact .inl ((hF x).2 (.inr (.inl e)))
  · rcases hG x e with e | e | e
    · exact .inl ((hF x).2 (.inr (.inr e)))
    · exact .inr (.inl e)
    · exact .inr (.inr e)

theorem BookHas.apart {W : World} {b : Nat} {F : Nat → Prop} {LsTexts : List (List ByteArray)} {LsItems : List (List It)} (h : BookHas W b F LsTexts LsItems) (hnTexts : LsTexts.length ≤ 1000) (hnItems : LsItems.length ≤ 1000) :
    Calls Tryz.prog 22 #[.pointer (some ⟨b, 0, none⟩)] W fun e w' => e = .returned (.bool true) ∧ Kept F W w' := by
  obtain ⟨FTexts, F1Texts, F2Texts, VTexts, CTexts, vsTexts, csTexts, lenTexts, conTexts, FItems, F1Items, F2Items, VItems, CItems, vsItems, csItems, lenItems, conItems, hTexts, hItems, hb, hd, hF⟩ := h
  have hc := fun o => cell_at hb o
  refine (apart_any b F1Texts F2Texts _ VTexts CTexts vsTexts csTexts lenTexts conTexts LsTexts F1Items F2Items _ VItems CItems vsItems csItems lenItems conItems LsItems W hTexts.kb rfl hTexts.lists (fun e => hTexts.out ((hTexts.iff b).2 (.inl e))) hnTexts hTexts.short hItems.kb rfl hItems.lists (fun e => hItems.out ((hItems.iff b).2 (.inl e))) hnItems hItems.short (fun x h1 h2 => hd x ((hTexts.iff x).2 (.inl h1)) ((hItems.iff x).2 (.inl h2))) (fun x h1 h2 => hd x ((hTexts.iff x).2 (.inl h2)) ((hItems.iff x).2 (.inl h1))) ⟨hc 2, hc 4, hc 6, hc 10, hc 12, hc 0, hc 1, hc 8, hc 9⟩).mono ?_
  rintro e w' ⟨rfl, hk⟩
  refine ⟨rfl, hk.mono (fun x _ hx => ?_)⟩
  rcases hx with e | e
  · exact (hF x).2 (.inr (.inl ((hTexts.iff x).2 (.inl e))))
  · exact (hF x).2 (.inr (.inr ((hItems.iff x).2 (.inl e))))
end Go.Proofs.YtekcjoogggoijaaGreatDoor
namespace Go.Proofs.YtekcjoogggoijaaGreatDoor
open Go.RowKit

theorem Kd.keep2 {w w1 w2 : World} {T E : TypeId} {size : Nat} {F : Nat → Prop} {N : Nat} {V : Value} {vs : List Value} {len : Nat → Nat} {con : Nat → List Value} {b : Nat} {arr : Array Value} {BT : TypeId} (h : Kd w T E size F N V vs len con) (hb : w.heap[b]? = some (.cells arr BT (0, 0))) (hF : ¬ F b)
    {u : Value} {n : Nat} {xs : List Value} (hu : Sl w E size n u xs) (hf : ∀ k, u.ownBlock = some k → ¬ F k ∧ k ≠ b) (hk : Kept (fun _ => False) w w1) {g off cap : Nat}
    (h1 : Sl w2 T 1 (N + 1) (.slice (some ⟨g, off, none⟩) (N + 1) cap) (vs ++ [u])) (h2 : Kept (fun k => V.ownBlock = some k) w1 w2) (h3 : V = .slice (some ⟨g, off, none⟩) N cap ∨ w1.heap.size ≤ g ∧ Kept (fun _ => False) w1 w2) (o : Nat) :
    ∃ F', Kd (w2.setCell ⟨b, o, none⟩ (.slice (some ⟨g, off, none⟩) (N + 1) cap)) T E size F' (N + 1) (.slice (some ⟨g, off, none⟩) (N + 1) cap) (vs ++ [u]) (fun j => if j = N then n else len j) (fun j => if j = N then xs else con j) ∧
      (w2.setCell ⟨b, o, none⟩ (.slice (some ⟨g, off, none⟩) (N + 1) cap)).heap[b]? = some (.cells (arr.setIfInBounds o (.slice (some ⟨g, off, none⟩) (N + 1) cap)) BT (0, 0)) ∧
      ¬ F' b ∧ Kept (fun k => k = b ∨ V.ownBlock = some k) w (w2.setCell ⟨b, o, none⟩ (.slice (some ⟨g, off, none⟩) (N + 1) cap)) ∧ (∀ k, F' k → F k ∨ u.ownBlock = some k ∨ w.heap.size ≤ k) ∧ (∀ k, F k → F' k) ∧ (∀ k, u.ownBlock = some k → F' k) ∧ ∀ k, k = g → V.ownBlock = some k ∨ w.heap.size ≤ k := by
  have hp := (h.kept hk (fun _ _ h => h)).push (hu.kept hk (fun _ _ h => h)) (fun k hk' => (hf k hk').1) h1 h2 h3
  have hbl := lt_of_block hb
  have hz := hk.size
  have hg : ∀ k, k = g → F k ∨ w.heap.size ≤ k := by
    rintro k rfl
    rcases h3 with rfl | ⟨h3, _⟩
    · exact .inl (h.rowF k rfl)
    · exact .inr (by omega)
  have hnb : ¬ (F b ∨ u.ownBlock = some b ∨ b = g) := by
    rintro (e | e | e)
    · exact hF e
    · exact (hf b e).2 rfl
    · rcases hg b e with e | e
      · exact hF e
      · omega
  have hkk : Kept (fun k => k = b ∨ V.ownBlock = some k) w w2 := (hk.mono (fun _ _ h => h.elim)).trans h2 (fun k _ hV => .inr hV)
  have hgV : ∀ k, k = g → V.ownBlock = some k ∨ w.heap.size ≤ k := by
    rintro k rfl
    rcases h3 with rfl | ⟨h3, _⟩
    · exact .inl rfl
    · exact .inr (by omega)
  have hb2 : w2.heap[b]? = some (.cells arr BT (0, 0)) := by
    rw [h2.block b (by omega) (fun e => hF (h.rowF b e)), hk.block b hbl (fun e => e)]
    exact hb
  refine ⟨_, hp.kept ((Kept.refl (fun k => k = b) w2).setCell (p := ⟨b, o, none⟩) (fun _ => rfl) _) (fun k hk' e => hnb (e ▸ hk')), setCell_block hb2 _ _, hnb, hkk.setCell (p := ⟨b, o, none⟩) (fun _ => .inl rfl) _, ?_, fun k hk' => .inl hk', fun k hk' => .inr (.inl hk'), hgV⟩
  rintro k (e | e | e)
  · exact .inl e
  · exact .inr (.inl e)
  · exact (hg k e).imp id .inr

/-- Behind the keeping of one more list. -/
def KeptOne2 (V0 C0 : Value) (w w' : World) (T E : TypeId) (size : Nat) (BT : TypeId) (b : Nat) (arr : Array Value) (o1 o2 : Nat) (F1 F2 : Nat → Prop) (N : Nat) (u : Value) (n : Nat) (xs : List Value) (len : Nat → Nat) (con : Nat → List Value) : Prop :=
  ∃ G1 G2 V C vs cs, Kb w' T E size G1 G2 (N + 1) V C vs cs (fun j => if j = N then n else len j) (fun j => if j = N then xs else con j) ∧ w'.heap[b]? = some (.cells ((arr.setIfInBounds o1 V).setIfInBounds o2 C) BT (0, 0)) ∧ ¬ G1 b ∧ ¬ G2 b ∧
    Kept (fun k => k = b ∨ V0.ownBlock = some k ∨ C0.ownBlock = some k) w w' ∧ (∀ k, G1 k ∨ G2 k → F1 k ∨ F2 k ∨ u.ownBlock = some k ∨ w.heap.size ≤ k) ∧
    ∀ k, V.ownBlock = some k ∨ C.ownBlock = some k → V0.ownBlock = some k ∨ C0.ownBlock = some k ∨ w.heap.size ≤ k

theorem Kb.one2 {w wa wb w4 wc wd : World} {T E : TypeId} {size : Nat} {F1 F2 : Nat → Prop} {N : Nat} {V C : Value} {vs cs : List Value} {len : Nat → Nat} {con : Nat → List Value} {b : Nat} {arr : Array Value} {BT : TypeId} (h : Kb w T E size F1 F2 N V C vs cs len con) (hb : w.heap[b]? = some (.cells arr BT (0, 0))) (hF1 : ¬ F1 b) (hF2 : ¬ F2 b)
    {u : Value} {n : Nat} {xs : List Value} (hu : Sl w E size n u xs) (hf : ∀ k, u.ownBlock = some k → ¬ F1 k ∧ ¬ F2 k ∧ k ≠ b) (hk : Kept (fun _ => False) w wa) {g off cap o1 o2 : Nat}
    (h1 : Sl wb T 1 (N + 1) (.slice (some ⟨g, off, none⟩) (N + 1) cap) (vs ++ [u])) (h2 : Kept (fun k => V.ownBlock = some k) wa wb) (h3 : V = .slice (some ⟨g, off, none⟩) N cap ∨ wa.heap.size ≤ g ∧ Kept (fun _ => False) wa wb)
    (hcb : Sl (wb.setCell ⟨b, o1, none⟩ (.slice (some ⟨g, off, none⟩) (N + 1) cap)) E size n u xs → True)
    {x : Value} (hx : Fresh (wb.setCell ⟨b, o1, none⟩ (.slice (some ⟨g, off, none⟩) (N + 1) cap)) w4 E size n x xs) (hk4 : Kept (fun _ => False) w4 wc) {g' off' cap' : Nat}
    (k1 : Sl wd T 1 (N + 1) (.slice (some ⟨g', off', none⟩) (N + 1) cap') (cs ++ [x])) (k2 : Kept (fun k => C.ownBlock = some k) wc wd) (k3 : C = .slice (some ⟨g', off', none⟩) N cap' ∨ wc.heap.size ≤ g' ∧ Kept (fun _ => False) wc wd) :
    KeptOne2 V C w (wd.setCell ⟨b, o2, none⟩ (.slice (some ⟨g', off', none⟩) (N + 1) cap')) T E size BT b arr o1 o2 F1 F2 N u n xs len con := by
  obtain ⟨G1, a1, a2, a3, a4, a5, a6, a7, a8⟩ := h.v.keep2 hb hF1 hu (fun k hk => ⟨(hf k hk).1, (hf k hk).2.2⟩) hk h1 h2 h3 o1
  generalize wb.setCell ⟨b, o1, none⟩ (.slice (some ⟨g, off, none⟩) (N + 1) cap) = w3 at *
  have hC3 := h.c.kept a4 (fun k hk hh => by
    rcases hh with rfl | hh
    · exact hF2 hk
    · exact h.dis k (h.v.rowF k hh) hk)
  have hC4 := hC3.kept hx.2.1 (fun _ _ h => h)
  have hb4 : w4.heap[b]? = some (.cells (arr.setIfInBounds o1 (.slice (some ⟨g, off, none⟩) (N + 1) cap)) BT (0, 0)) := (hx.2.1.block b (lt_of_block a2) (fun e => e)).trans a2
  have hown : ∀ k, x.ownBlock = some k → w3.heap.size ≤ k := by
    intro k hk
    rcases hx.2.2 with ⟨rfl, _⟩ | ⟨g, off, cap, rfl, hg⟩
    · cases hk
    · simp [Value.ownBlock] at hk
      omega
  have hbl3 := lt_of_block a2
  obtain ⟨G2, c1, c2, c3, c4, c5, c6, c7, c8⟩ := hC4.keep2 hb4 hF2 hx.1 (fun k hk => ⟨fun e => by have := hC3.lt k e; have := hown k hk; omega, fun e => by have := hown k hk; omega⟩) hk4 k1 k2 k3 o2
  have hz := a4.size
  have hz2 := hx.2.1.size
  have hd : ∀ k, G1 k → ¬ F2 k := fun k hk hh => by
    rcases a5 k hk with e | e | e
    · exact h.dis k e hh
    · exact (hf k e).2.1 hh
    · have := h.c.lt k hh; omega
  refine ⟨G1, G2, _, _, _, _, ⟨(a1.kept hx.2.1 (fun _ _ h => h)).kept c4 (fun k hk hh => ?_), c1, fun k hk hh => ?_⟩, c2, a3, c3, ?_, ?_, ?_⟩
  · rcases hh with rfl | hh
    · exact a3 hk
    · exact hd k hk (h.c.rowF k hh)
  · have hlt := a1.lt k hk
    rcases c5 k hh with e | e | e
    · exact hd k hk e
    · have := hown k e; omega
    · omega
  · refine ((a4.mono (fun k _ hh => hh.imp id .inl)).trans hx.2.1 (fun _ _ h => h.elim)).trans c4 (fun k _ hh => hh.imp id .inr)
  · rintro k (e | e)
    · rcases a5 k e with e | e | e
      · exact .inl e
      · exact .inr (.inr (.inl e))
      · exact .inr (.inr (.inr e))
    · rcases c5 k e with e | e | e
      · exact .inr (.inl e)
      · exact .inr (.inr (.inr (by have := hown k e; omega)))
      · exact .inr (.inr (.inr (by omega)))
  · rintro k (e | e)
    · simp [Value.ownBlock] at e
      rcases a8 k e.symm with e | e
      · exact .inl e
      · exact .inr (.inr e)
    · simp [Value.ownBlock] at e
      rcases c8 k e.symm with e | e
      · exact .inr (.inl e)
      · exact .inr (.inr (by omega))

end Go.Proofs.YtekcjoogggoijaaGreatDoor
