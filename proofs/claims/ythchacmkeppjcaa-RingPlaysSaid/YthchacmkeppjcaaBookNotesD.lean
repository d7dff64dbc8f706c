/-
  The Book's notes: are the lists as they were?
-/
import Derived.Test.YthchacmkeppjcaaBookNotesC
namespace Go.Proofs.Ythchacmkeppjcaa
set_option linter.unusedVariables false
set_option linter.unusedSimpArgs false
set_option linter.unnecessarySimpa false
open Go.RowKit

set_option maxRecDepth 100000 in
set_option maxHeartbeats 1600000 in
theorem stillNotes_true (b : Nat) (V C : Value) (vs cs : List Value) (Ls : List (List Note)) (w : World) (h6 : w.cell? ⟨b, 6, none⟩ = some V) (h7 : w.cell? ⟨b, 7, none⟩ = some C) (hV : Lists w V vs Ls) (hC : Lists w C cs Ls) (hn : Ls.length ≤ 1000) (hl : ∀ L ∈ Ls, L.length ≤ 100000) :
    Calls Try.prog 23 #[.pointer (some ⟨b, 0, none⟩)] w fun e w' => e = .returned (.bool true) ∧ Kept (fun _ => False) w w' := by
  obtain ⟨ao, ca, rfl, _⟩ := hV.1.shape
  obtain ⟨ao2, ca2, rfl, _⟩ := hC.1.shape
  obtain ⟨n, hnn⟩ : ∃ n, n = Ls.length := ⟨_, rfl⟩
  rw [← hnn] at hn h6 h7 hV hC
  have HN := Lib.hid hnn
  have HV := Lib.hid hV
  have HC := Lib.hid hC
  have HZ := Lib.hid hl
  have H6 := Lib.hid h6
  have H7 := Lib.hid h7
  clear hV hC hl hnn
  go_enter Try.func23, Try.ntmps23
  go_wp2_with fail
  go_loopg [3] n (fun gk k wr => ∃ i : Nat, i + gk = n ∧ k = .int .i64 (i : Int) ∧ Kept (fun _ => False) w wr)
  case atStart => exact ⟨0, by omega, rfl, Kept.refl _ _⟩
  case round =>
    obtain ⟨i, hi, rfl, hk⟩ := hrel
    have HK := Lib.hid hk
    have x6 := hk.cell0 H6.out
    have x7 := hk.cell0 H7.out
    clear hk h6 h7
    by_cases hlt : i < n
    · have hil : i < Ls.length := HN.out ▸ hlt
      obtain ⟨g, off, a, m, rfl, x0, hr0⟩ := (HV.out.kept HK.out).at i hil
      obtain ⟨g', off', a', m', rfl, y0, hr1⟩ := (HC.out.kept HK.out).at i hil
      have hz := HZ.out _ (List.getElem_mem hil)
      generalize (Ls[i]'hil) = L at *
      have SAME := Lib.hid (fun (W : World) (hW : Kept (fun _ => False) wr W) => sameNotes_true (.slice a L.length m) (.slice a' L.length m') L W (hr0.kept hW (fun _ _ h => h)) (hr1.kept hW (fun _ _ h => h)) (by omega))
      clear hr0 hr1
      go_wp2_with fail
      go_region_with (go_at_call 12; refine (SAME.out _ ((Kept.refl (fun _ => False) wr).drew)).mono ?_; rintro e w3 ⟨rfl, q, rfl⟩)
      all_goals
        go_wp2_with fail
        go_roundg (gk - 1)
        case measure => omega
        case rel => exact ⟨i + 1, by omega, by go_num, HK.out.trans ((Kept.refl (fun _ => False) wr).drewN _) (fun _ _ h => h)⟩
    · go_wp2_with fail
      go_ret
      exact ⟨rfl, HK.out⟩
end Go.Proofs.Ythchacmkeppjcaa
