/-
  The Book's notes: copies.
-/
import Derived.Test.YthchacmkeppjcaaBookNotesA
namespace Go.Proofs.Ythchacmkeppjcaa
set_option linter.unusedVariables false
set_option linter.unusedSimpArgs false
set_option linter.unnecessarySimpa false
open Go.RowKit

set_option maxRecDepth 100000 in
set_option maxHeartbeats 1600000 in
theorem copyNotes_any (v : Value) (l : List Note) (w : World) (h : Rd w 4 l.length v (flat l)) (hn : l.length ≤ 100000) :
    Calls Try.prog 18 #[v] w (FreshRet w 38 4 l.length (flat l)) := by
  obtain ⟨i0, hi0, hz0, hz1, hz2⟩ := info_parts note_info
  obtain ⟨ao, ca, rfl, hca⟩ := h.shape
  by_cases h0 : l.length = 0
  · obtain rfl : l = [] := List.eq_nil_of_length_eq_zero h0
    simp only [List.length_nil] at hca ⊢
    clear h hn h0
    rcases ao with _ | a
    all_goals
      go_enter Try.func18, Try.ntmps18
      go_wp2_with fail
      go_ret
      exact ⟨_, rfl, Fresh.nil (Kept.refl _ _)⟩
  · obtain ⟨_, _, hc⟩ := h.at
    obtain ⟨g, off, rfl⟩ : ∃ g off, ao = some ⟨g, off, none⟩ := by
      have hl : 0 < (flat l).length := by rw [flat_length]; omega
      obtain ⟨g, off, e, _⟩ := hc 0 _ (List.getElem?_eq_getElem hl)
      exact ⟨g, off, e⟩
    have hcell : ∀ (j : Nat) (u : Value), (flat l)[j]? = some u → w.cell? ((⟨g, off, none⟩ : Addr).add j) = some u := fun j u hu => by
      obtain ⟨g', off', e, h1⟩ := hc j u hu
      injection e with e
      injection e with e1 e2
      subst e1 e2
      rw [Addr.add_lit]
      exact h1
    have HC := Lib.hid hcell
    have H1 := Lib.hid (flat_one l)
    have hfl := flat_length l
    have b1 : 0 + l.length ≤ maxLen := by unfold maxLen; omega
    have b2 : (0 + l.length) * 48 ≤ 140737488355328 := by omega
    have FR := Lib.hid (Fresh.nil (E := 38) (size := 4) (Kept.refl (fun _ => False) w))
    generalize l.length = n at *
    generalize flat l = xs at *
    clear h hc hcell
    go_enter Try.func18, Try.ntmps18
    go_wp2_with (at_builtin; refine wpList_append_sl _ rfl (.const (.slice none 0 0)) (.tmp 3) 22 rfl 38 i0 _ 4 48 Try.underlying22 hi0 hz0 hz1 hz2 rfl (by decide) (.slice none 0 0) 0 [] rfl (Sl.nil _ _ _) ⟨g, off, none⟩ n ca xs rfl hfl HC.out H1.out (by omega) b1 b2 ?_; intro g4 off4 cap w5 h1 h2 h3; have F1 := Lib.hid h1; have F2 := Lib.hid h2; have F3 := Lib.hid h3; clear h1 h2 h3)
    go_ret
    refine ⟨_, rfl, ?_, F2.out.mono (fun i _ e => by cases e), .inr ⟨g4, off4, cap, ?_, ?_⟩⟩
    · have := F1.out
      simpa using this
    · simp
    · exact F3.out.elim (fun e => by cases e) (fun e => e)
end Go.Proofs.Ythchacmkeppjcaa
