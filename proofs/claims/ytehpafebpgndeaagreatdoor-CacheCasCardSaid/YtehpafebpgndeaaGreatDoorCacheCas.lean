/-
  CacheCas: a compare and swap writes just if the version is the one that was told last: the walk.
-/
import Derived.Test.YtehpafebpgndeaaGreatDoorCacheDo
namespace Go.Proofs.YtehpafebpgndeaaGreatDoor
set_option linter.unusedVariables false
set_option linter.unusedSimpArgs false
set_option linter.unnecessarySimpa false
open Go.RowKit
set_option maxRecDepth 100000

set_option maxHeartbeats 8000000 in
theorem cacheCas_walk (key a b : ByteArray) (ver : Int) (w : World) (hL : Laid w) (hv0 : -9223372036854775808 ≤ ver) (hv1 : ver ≤ 9223372036854775807) :
    Calls Tryz.prog 4 #[.string key, .string a, .string b, .int .i64 ver] w fun e w' => e = .returned (.bool true) ∧ Kept (fun _ => False) w w' := by
  have AL := Lib.hid (alive_true w hL)
  have HL := Lib.hid hL
  clear hL
  by_cases g1 : (key.size : Int) < 1
  · go_enter Tryz.func4, Tryz.ntmps4
    go_wp2_with fail
    refine AL.out.mono ?_
    rintro e w1 ⟨rfl, hk⟩
    have HK := Lib.hid hk
    clear hk
    go_wp2_with fail
    go_ret
    exact ⟨rfl, HK.out⟩
  by_cases g2 : 60 < (key.size : Int)
  · go_enter Tryz.func4, Tryz.ntmps4
    go_wp2_with fail
    refine AL.out.mono ?_
    rintro e w1 ⟨rfl, hk⟩
    have HK := Lib.hid hk
    clear hk
    go_wp2_with fail
    go_ret
    exact ⟨rfl, HK.out⟩
  by_cases g3 : 100 < (a.size : Int)
  · go_enter Tryz.func4, Tryz.ntmps4
    go_wp2_with fail
    refine AL.out.mono ?_
    rintro e w1 ⟨rfl, hk⟩
    have HK := Lib.hid hk
    clear hk
    go_wp2_with fail
    go_ret
    exact ⟨rfl, HK.out⟩
  by_cases g4 : 100 < (b.size : Int)
  · go_enter Tryz.func4, Tryz.ntmps4
    go_wp2_with fail
    refine AL.out.mono ?_
    rintro e w1 ⟨rfl, hk⟩
    have HK := Lib.hid hk
    clear hk
    go_wp2_with fail
    go_ret
    exact ⟨rfl, HK.out⟩
  by_cases g5 : ver < 0
  · go_enter Tryz.func4, Tryz.ntmps4
    go_wp2_with fail
    refine AL.out.mono ?_
    rintro e w1 ⟨rfl, hk⟩
    have HK := Lib.hid hk
    clear hk
    go_wp2_with fail
    go_ret
    exact ⟨rfl, HK.out⟩
  by_cases g6 : 10 < ver
  · go_enter Tryz.func4, Tryz.ntmps4
    go_wp2_with fail
    refine AL.out.mono ?_
    rintro e w1 ⟨rfl, hk⟩
    have HK := Lib.hid hk
    clear hk
    go_wp2_with fail
    go_ret
    exact ⟨rfl, HK.out⟩
  have RUN := Lib.hid (cas_run (key := key) (a := a) (b := b) (ver := ver) (by omega) (by omega) (by omega) (by omega) (by omega) (by omega))
  go_enter Tryz.func4, Tryz.ntmps4
  go_wp2_with fail
  refine AL.out.mono ?_
  rintro e w1 ⟨rfl, hk⟩
  have DO := Lib.hid (fun (o : Obj) (ho : o = .cells (flatC [⟨2, key, a, 0, 0⟩, ⟨6, key, b, 0, ver⟩, ⟨1, key, ⟨#[]⟩, 0, 0⟩]).toArray 32) => do_any [⟨2, key, a, 0, 0⟩, ⟨6, key, b, 0, ver⟩, ⟨1, key, ⟨#[]⟩, 0, 0⟩] (some ⟨w1.heap.size, 0, none⟩) 3 (w1.alloc o) (HL.out.kept0 (hk.alloc o)) (rd_block (T := 32) (f := (0, 0)) (by rw [heap_alloc_new w1 o, ho]) rfl) (by simp) (by
    intro x hx
    simp only [List.mem_cons, List.mem_nil_iff, or_false] at hx
    rcases hx with rfl | rfl | rfl
    · exact ⟨by simp, by simp, by simp only; omega, by simp only; omega⟩
    · exact ⟨by simp, by simp, by simp only; omega, by simp only; omega⟩
    · exact ⟨by simp, by simp, by simp only; omega, show (⟨#[]⟩ : ByteArray).size ≤ 1000 by decide⟩))
  have HK := Lib.hid (fun o => hk.alloc o)
  clear hk
  go_wp2_with fail
  refine (DO.out _ rfl).mono ?_
  rintro e w2 ⟨v, rfl, hs, hk2⟩
  have HK2 := Lib.hid ((HK.out _).trans hk2 (fun _ _ h => h))
  rw [RUN.out] at hs
  clear hk2 DO HK
  obtain ⟨g, off, cap, rfl, hcap, hg, hc⟩ := (Rd.of_sl hs).base (by simp) (by decide)
  have hbe : b.toList == b.toList := beq_self_eq_true _
  have hae : a.toList == a.toList := beq_self_eq_true _
  by_cases hv : ver = 1
  · rw [if_pos hv] at hc
    have c0 := hc 0 _ rfl
    rw [Nat.add_zero] at c0
    have c3 := hc 3 _ rfl
    have c5 := hc 5 _ rfl
    have c8 := hc 8 _ rfl
    have c10 := hc 10 _ rfl
    have c11 := hc 11 _ rfl
    have c13 := hc 13 _ rfl
    clear hc hs RUN
    subst hv
    go_wp2_with fail
    go_region
    go_wp2_with fail
    go_ret
    exact ⟨rfl, HK2.out.drew⟩
  · rw [if_neg hv] at hc
    have c0 := hc 0 _ rfl
    rw [Nat.add_zero] at c0
    have c3 := hc 3 _ rfl
    have c5 : w2.cell? ⟨g, off + 5, none⟩ = some (.int .i64 11) := hc 5 _ rfl
    have c8 : w2.cell? ⟨g, off + 8, none⟩ = some (.int .i64 0) := hc 8 _ rfl
    have c10 := hc 10 _ rfl
    have c11 := hc 11 _ rfl
    have c13 := hc 13 _ rfl
    clear hc hs RUN
    have hv2 : (ver == 1) = false := by simpa using hv
    go_wp2_with fail
    go_region
    go_wp2_with fail
    go_ret
    exact ⟨rfl, HK2.out.drew⟩
end Go.Proofs.YtehpafebpgndeaaGreatDoor
