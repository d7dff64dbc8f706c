/-
  CacheThere: what is there is not added, what is not there is not replaced: the walk.
-/
import Derived.Test.YtehpafebpgndeaaGreatDoorCacheDo
namespace Go.Proofs.YtehpafebpgndeaaGreatDoor
set_option linter.unusedVariables false
set_option linter.unusedSimpArgs false
set_option linter.unnecessarySimpa false
open Go.RowKit
set_option maxRecDepth 100000

theorem there_cell {w : World} {g off : Nat} {b : ByteArray} (hc : ∀ (j : Nat) (u : Value), (flatR [Rp.err 9, ⟨0, ⟨#[]⟩, 0, 1, []⟩, Rp.err 10, ⟨0, ⟨#[]⟩, 0, 2, []⟩, ⟨0, b, 0, 2, []⟩, Rp.err 0, Rp.err 9, Rp.err 9])[j]? = some u → w.cell? ⟨g, off + j, none⟩ = some u) (i : Nat) (e : Int) (h : ([9, 0, 10, 0, 0, 0, 9, 9] : List Int)[i]? = some e) : w.cell? ⟨g, off + i * 5, none⟩ = some (.int .i64 e) := by
  have hi : i < 8 := by have := (List.getElem?_eq_some_iff.1 h).1; simpa using this
  rcases i with _ | _ | _ | _ | _ | _ | _ | _ | i
  all_goals first | (injection h with h; subst h; exact hc _ _ rfl) | omega
theorem there_at (i : Nat) (e : Int) (h : ([9, 0, 10, 0, 0, 0, 9, 9] : List Int)[i]? = some e) : [Value.int .i64 9, .int .i64 0, .int .i64 10, .int .i64 0, .int .i64 0, .int .i64 0, .int .i64 9, .int .i64 9][i]? = some (.int .i64 e) := by
  have hi : i < 8 := by have := (List.getElem?_eq_some_iff.1 h).1; simpa using this
  rcases i with _ | _ | _ | _ | _ | _ | _ | _ | i
  all_goals first | (injection h with h; subst h; rfl) | omega
set_option maxHeartbeats 8000000 in
theorem cacheThere_walk (key a b : ByteArray) (w : World) (hL : Laid w)  :
    Calls Tryz.prog 5 #[.string key, .string a, .string b] w fun e w' => e = .returned (.bool true) ∧ Kept (fun _ => False) w w' := by
  have AL := Lib.hid (alive_true w hL)
  have HL := Lib.hid hL
  clear hL
  by_cases g1 : (key.size : Int) < 1
  · go_enter Tryz.func5, Tryz.ntmps5
    go_wp2_with fail
    refine AL.out.mono ?_
    rintro e w1 ⟨rfl, hk⟩
    have HK := Lib.hid hk
    clear hk
    go_wp2_with fail
    go_ret
    exact ⟨rfl, HK.out⟩
  by_cases g2 : 60 < (key.size : Int)
  · go_enter Tryz.func5, Tryz.ntmps5
    go_wp2_with fail
    refine AL.out.mono ?_
    rintro e w1 ⟨rfl, hk⟩
    have HK := Lib.hid hk
    clear hk
    go_wp2_with fail
    go_ret
    exact ⟨rfl, HK.out⟩
  by_cases g3 : 100 < (a.size : Int)
  · go_enter Tryz.func5, Tryz.ntmps5
    go_wp2_with fail
    refine AL.out.mono ?_
    rintro e w1 ⟨rfl, hk⟩
    have HK := Lib.hid hk
    clear hk
    go_wp2_with fail
    go_ret
    exact ⟨rfl, HK.out⟩
  by_cases g4 : 100 < (b.size : Int)
  · go_enter Tryz.func5, Tryz.ntmps5
    go_wp2_with fail
    refine AL.out.mono ?_
    rintro e w1 ⟨rfl, hk⟩
    have HK := Lib.hid hk
    clear hk
    go_wp2_with fail
    go_ret
    exact ⟨rfl, HK.out⟩
  have RUN := Lib.hid (there_run (key := key) (a := a) (b := b) (by omega) (by omega) (by omega) (by omega))
  go_enter Tryz.func5, Tryz.ntmps5
  go_wp2_with fail
  refine AL.out.mono ?_
  rintro e w1 ⟨rfl, hk⟩
  have DO := Lib.hid (fun (o : Obj) (ho : o = .cells (flatC [⟨4, key, a, 0, 0⟩, ⟨3, key, a, 0, 0⟩, ⟨3, key, b, 0, 0⟩, ⟨4, key, b, 0, 0⟩, ⟨1, key, ⟨#[]⟩, 0, 0⟩, ⟨5, key, ⟨#[]⟩, 0, 0⟩, ⟨5, key, ⟨#[]⟩, 0, 0⟩, ⟨1, key, ⟨#[]⟩, 0, 0⟩]).toArray 32) => do_any [⟨4, key, a, 0, 0⟩, ⟨3, key, a, 0, 0⟩, ⟨3, key, b, 0, 0⟩, ⟨4, key, b, 0, 0⟩, ⟨1, key, ⟨#[]⟩, 0, 0⟩, ⟨5, key, ⟨#[]⟩, 0, 0⟩, ⟨5, key, ⟨#[]⟩, 0, 0⟩, ⟨1, key, ⟨#[]⟩, 0, 0⟩] (some ⟨w1.heap.size, 0, none⟩) 8 (w1.alloc o) (HL.out.kept0 (hk.alloc o)) (rd_block (T := 32) (f := (0, 0)) (by rw [heap_alloc_new w1 o, ho]) rfl) (by simp) (by
    have hz : (⟨#[]⟩ : ByteArray).size ≤ 1000 := by decide
    intro x hx
    simp only [List.mem_cons, List.mem_nil_iff, or_false] at hx
    rcases hx with rfl | rfl | rfl | rfl | rfl | rfl | rfl | rfl
    · exact ⟨by simp, by simp, by simp only; omega, by simp only; omega⟩
    · exact ⟨by simp, by simp, by simp only; omega, by simp only; omega⟩
    · exact ⟨by simp, by simp, by simp only; omega, by simp only; omega⟩
    · exact ⟨by simp, by simp, by simp only; omega, by simp only; omega⟩
    · exact ⟨by simp, by simp, by simp only; omega, hz⟩
    · exact ⟨by simp, by simp, by simp only; omega, hz⟩
    · exact ⟨by simp, by simp, by simp only; omega, hz⟩
    · exact ⟨by simp, by simp, by simp only; omega, hz⟩))
  have HK := Lib.hid (fun o => hk.alloc o)
  clear hk
  go_wp2_with fail
  refine (DO.out _ rfl).mono ?_
  rintro e w2 ⟨v, rfl, hs, hk2⟩
  have HK2 := Lib.hid ((HK.out _).trans hk2 (fun _ _ h => h))
  rw [RUN.out] at hs
  clear hk2 DO HK
  obtain ⟨g, off, cap, rfl, hcap, hg, hc⟩ := (Rd.of_sl hs).base (by simp) (by decide)
  have hbe : b.toList == b.toList := beq_self_eq_true _
  have HC := Lib.hid (fun (W : World) (hk : Kept (fun _ => False) w2 W) (i : Nat) (e : Int) (h : ([9, 0, 10, 0, 0, 0, 9, 9] : List Int)[i]? = some e) => (there_cell (w := W) (fun j u hu => (hk.cell (p := ⟨g, off + j, none⟩) hg (fun h => h)).trans (hc j u hu)) i e h : W.cell? ⟨g, off + i * 5, none⟩ = some (.int .i64 e)))
  have HB4 := Lib.hid (fun (W : World) (hk : Kept (fun _ => False) w2 W) => (hk.cell (p := ⟨g, off + 21, none⟩) hg (fun h => h)).trans (hc 21 _ rfl))
  clear hc hs RUN
  go_wp2_with fail
  have HE := Lib.hid (fun i (e : Int) (h : ([9, 0, 10, 0, 0, 0, 9, 9] : List Int)[i]? = some e) => (by
    have h2 := cells_new w2 [.int .i64 9, .int .i64 0, .int .i64 10, .int .i64 0, .int .i64 0, .int .i64 0, .int .i64 9, .int .i64 9] 33 (0, 0) i (.int .i64 e) (there_at i e h)
    rw [Addr.add_lit, Nat.zero_add] at h2
    exact h2 : (w2.alloc (.cells #[.int .i64 9, .int .i64 0, .int .i64 10, .int .i64 0, .int .i64 0, .int .i64 0, .int .i64 9, .int .i64 9] 33)).cell? ⟨w2.heap.size, i, none⟩ = some (.int .i64 e)))
  have HKA := Lib.hid ((Kept.refl (fun _ => False) w2).alloc (.cells #[.int .i64 9, .int .i64 0, .int .i64 10, .int .i64 0, .int .i64 0, .int .i64 0, .int .i64 9, .int .i64 9] 33))
  obtain ⟨W, hW⟩ : ∃ W, W = w2.alloc (.cells #[.int .i64 9, .int .i64 0, .int .i64 10, .int .i64 0, .int .i64 0, .int .i64 0, .int .i64 9, .int .i64 9] 33) := ⟨_, rfl⟩
  rw [← hW] at HE HKA ⊢
  have HKW := Lib.hid (HK2.out.trans HKA.out (fun _ _ h => h))
  clear hW HK2
  go_loopg [60] 8 (fun gk k wr => ∃ i : Nat, i + gk = 8 ∧ k = .int .i64 (i : Int) ∧ wr = W)
  case atStart => exact ⟨0, by omega, rfl, rfl⟩
  case round =>
    obtain ⟨i, hi, rfl, rfl⟩ := hrel
    by_cases hlt : i < 8
    · have hii : i < ([9, 0, 10, 0, 0, 0, 9, 9] : List Int).length := hlt
      have x0 := HE.out i _ (List.getElem?_eq_getElem hii)
      have y0 := HC.out _ HKA.out i _ (List.getElem?_eq_getElem hii)
      generalize ([9, 0, 10, 0, 0, 0, 9, 9] : List Int)[i] = ei at *
      go_wp2_with fail
      go_roundg (gk - 1)
      case measure => omega
      case rel => exact ⟨i + 1, by omega, by go_num, rfl⟩
    · obtain rfl : i = 8 := by omega
      have c21 := HB4.out _ HKA.out
      go_wp2_with fail
      go_ret
      exact ⟨by first | rfl | simp [hbe], HKW.out⟩
end Go.Proofs.YtehpafebpgndeaaGreatDoor
