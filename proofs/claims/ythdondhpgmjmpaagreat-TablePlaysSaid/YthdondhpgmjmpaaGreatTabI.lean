/-
  A table of one's own: Del and Keys in words of the items alone.
-/
import Derived.Test.YthdondhpgmjmpaaGreatTabF
import Derived.Test.YthdondhpgmjmpaaGreatTabK
namespace Go.Proofs.YthdondhpgmjmpaaGreat
set_option linter.unusedVariables false
set_option linter.unusedSimpArgs false
set_option linter.unnecessarySimpa false
open Go.RowKit
set_option maxRecDepth 100000

theorem tb_del {b : Nat} {O : Nat → Prop} {seed S : Nat} {L : List It} (key : ByteArray) {w : World} (h : Tb w b O seed S L) (hS : S ≤ 400000) (hx : key.size ≤ 1000000000) :
    Calls Tryz.prog 7 #[.pointer (some ⟨b, 0, none⟩), .string key] w fun e w' => e = .returned (.bool (hasB L key)) ∧ ∃ O', Tb w' b O' seed S (delL L key) ∧ Grew O w O' w' := by
  obtain ⟨hf, L', hp, ht⟩ := h
  have hf' := hf.perm hp
  rw [← hp.length_eq] at ht
  refine (del_any b O seed S L' key w ht (by omega) (by have := hf'.le; omega) hf'.nodup hx).mono ?_
  rintro e w' ⟨rfl, O', ht2, hg⟩
  have hpp := delL_perm hp key
  rw [hpp.length_eq] at ht2
  exact ⟨by rw [hasB_perm hp], O', ⟨hf.del key, _, hpp, ht2⟩, hg⟩

theorem tb_keys {b : Nat} {O : Nat → Prop} {seed S : Nat} {L : List It} {w : World} (h : Tb w b O seed S L) (hS : S ≤ 400000) :
    Calls Tryz.prog 13 #[.pointer (some ⟨b, 0, none⟩)] w (KeysSaid w L) := by
  obtain ⟨hf, L', hp, ht⟩ := h
  have hf' := hf.perm hp
  refine (keys_any b O seed _ S L' w ht (by omega) (by have := hf'.le; omega)).mono ?_
  rintro e w' ⟨v, rfl, hs⟩
  refine ⟨v, rfl, ?_⟩
  rw [show sortB (keys L) = sortB (keys L') from (sortB_congr (hp.map It.key)).symm]
  exact hs

theorem own_del {w0 w : World} {b seed S : Nat} {L : List It} (key : ByteArray) {r : Bool} {L' : List It} (h : OwnT w0 w b seed S L) (hS : S ≤ 400000) (hx : key.size ≤ 1000000000) (hr : hasB L key = r) (hL : delL L key = L') :
    Calls Tryz.prog 7 #[.pointer (some ⟨b, 0, none⟩), .string key] w fun e w' => e = .returned (.bool r) ∧ OwnT w0 w' b seed S L' := by
  obtain ⟨h1, O, h2, h3⟩ := h
  subst hr hL
  refine (tb_del key h2 hS hx).mono ?_
  rintro e w' ⟨rfl, O', ht, hg⟩
  exact ⟨rfl, .step h1 h3 ht hg⟩
theorem own_keys {w0 w : World} {b seed S : Nat} {L : List It} (h : OwnT w0 w b seed S L) (hS : S ≤ 400000) :
    Calls Tryz.prog 13 #[.pointer (some ⟨b, 0, none⟩)] w (KeysSaid w L) := by
  obtain ⟨h1, O, h2, h3⟩ := h
  exact tb_keys h2 hS
end Go.Proofs.YthdondhpgmjmpaaGreat
