/-
  The Book's notes: are lists marked?
-/
import Derived.Test.YthchacmkeppjcaaBookNotesB
import Derived.Test.YthchacmkeppjcaaSameNotes
import Derived.Deep.RegionWith
namespace Go.Proofs.Ythchacmkeppjcaa
set_option linter.unusedVariables false
set_option linter.unusedSimpArgs false
set_option linter.unnecessarySimpa false
open Go.RowKit

/-- V: a slice of slices with these lists. -/
def Lists (w : World) (V : Value) (vs : List Value) (Ls : List (List Note)) : Prop := Rd w 1 Ls.length V vs ∧ ∀ (i : Nat) (h : i < Ls.length), ∃ v, vs[i]? = some v ∧ Rd w 4 (Ls[i]).length v (flat Ls[i])
theorem Lists.at {w : World} {ao : Option Addr} {n c : Nat} {vs : List Value} {Ls : List (List Note)} (h : Lists w (.slice ao n c) vs Ls) (i : Nat) (hi : i < Ls.length) :
    ∃ g off a m, ao = some ⟨g, off, none⟩ ∧ w.cell? ⟨g, off + i, none⟩ = some (.slice a (Ls[i]).length m) ∧ Rd w 4 (Ls[i]).length (.slice a (Ls[i]).length m) (flat Ls[i]) := by
  obtain ⟨v, hv, hr⟩ := h.2 i hi
  obtain ⟨_, _, hc⟩ := h.1.at
  obtain ⟨g, off, rfl, hcell⟩ := hc i v hv
  obtain ⟨a, m, rfl, _⟩ := hr.shape
  exact ⟨g, off, a, m, rfl, hcell, hr⟩
theorem Lists.kept {w w' : World} {V : Value} {vs : List Value} {Ls : List (List Note)} (h : Lists w V vs Ls) (hk : Kept (fun _ => False) w w') : Lists w' V vs Ls :=
  ⟨h.1.kept hk (fun _ _ h => h), fun i hi => by obtain ⟨v, hv, hr⟩ := h.2 i hi; exact ⟨v, hv, hr.kept hk (fun _ _ h => h)⟩⟩

set_option maxRecDepth 100000 in
set_option maxHeartbeats 1600000 in
theorem markedNotes_true (V : Value) (vs : List Value) (Ls : List (List Note)) (w : World) (h : Lists w V vs Ls) (hn : Ls.length ≤ 1000) (hm : ∀ (i : Nat) (h : i < Ls.length), Ls[i] = markL i 0 (Ls[i]).length) (hl : ∀ L ∈ Ls, L.length ≤ 100000) :
    Calls Try.prog 44 #[V] w fun e w' => e = .returned (.bool true) ∧ Kept (fun _ => False) w w' := by
  obtain ⟨ao, ca, rfl, hca⟩ := h.1.shape
  obtain ⟨n, hnn⟩ : ∃ n, n = Ls.length := ⟨_, rfl⟩
  rw [← hnn] at hn h ⊢
  have HN := Lib.hid hnn
  have HL := Lib.hid h
  have HM := Lib.hid hm
  have HZ := Lib.hid hl
  clear h hm hl hnn hca
  go_enter Try.func44, Try.ntmps44
  go_wp2_with fail
  go_loopg [3] n (fun gk k wr => ∃ i : Nat, i + gk = n ∧ k = .int .i64 (i : Int) ∧ Kept (fun _ => False) w wr)
  case atStart => exact ⟨0, by omega, rfl, Kept.refl _ _⟩
  case round =>
    obtain ⟨i, hi, rfl, hk⟩ := hrel
    have HK := Lib.hid hk
    clear hk
    by_cases hlt : i < n
    · have hil : i < Ls.length := HN.out ▸ hlt
      obtain ⟨g, off, a, m, rfl, x0, hr0⟩ := (HL.out.kept HK.out).at i hil
      have hz := HZ.out _ (List.getElem_mem hil)
      have hmk := HM.out i hil
      generalize (Ls[i]'hil) = L at *
      obtain ⟨z, hzz⟩ : ∃ z, z = L.length := ⟨_, rfl⟩
      rw [← hzz] at hmk
      rw [← hzz] at x0 hz hr0
      have HR0 := Lib.hid hr0
      clear hr0
      have MK := Lib.hid (fun (W : World) => (show Calls Try.prog 60 #[.int .i64 i, .int .i64 0, .int .i64 z] W (FreshRet W 38 4 z (flat (markL i 0 z))) from markNotes_any i 0 z W (by omega) (by omega) hz))
      rw [← hmk] at MK
      have HZZ := Lib.hid hzz
      clear hzz hmk
      go_wp2_with fail
      go_region_with (first
        | (go_at_call 60; refine (MK.out _).mono ?_; rintro e w2 ⟨u, rfl, hfr⟩; have K2 := Lib.hid (((Kept.refl (fun _ => False) wr).drew).trans hfr.2.1 (fun _ _ h => h)); have y0 := K2.out.cell0 x0; obtain ⟨aou, cau, rfl, _⟩ := (Rd.of_sl hfr.1).shape; have hs := Rd.of_sl hfr.1; have SAME := Lib.hid (sameNotes_true (.slice a z m) (.slice aou z cau) L w2 (by rw [← HZZ.out]; exact HR0.out.kept K2.out (fun _ _ h => h)) (by rw [← HZZ.out]; exact hs) (by rw [← HZZ.out]; omega)); clear hfr hs)
        | (go_at_call 12; refine SAME.out.mono ?_; rintro e w3 ⟨rfl, q, rfl⟩; have K3 := Lib.hid (K2.out.drewN q)))
      all_goals
        go_wp2_with fail
        go_roundg (gk - 1)
        case measure => omega
        case rel => exact ⟨i + 1, by omega, by go_num, HK.out.trans K3.out (fun _ _ h => h)⟩
    · go_wp2_with fail
      go_ret
      exact ⟨rfl, HK.out⟩
end Go.Proofs.Ythchacmkeppjcaa
