/-
  CacheDigits: numbers that may be are read as they are written: the walk.
-/
import Derived.Test.YtehpafebpgndeaaGreatDoorCacheV
import Derived.Test.YtehpafebpgndeaaGreatDoorRefNum
namespace Go.Proofs.YtehpafebpgndeaaGreatDoor
set_option linter.unusedVariables false
set_option linter.unusedSimpArgs false
set_option linter.unnecessarySimpa false
open Go.RowKit
set_option maxRecDepth 100000

set_option maxHeartbeats 8000000 in
theorem cacheDigits_walk (v : Int) (w : World) (hL : Laid w) (hv0 : -9223372036854775808 ≤ v) (hv1 : v ≤ 9223372036854775807) :
    Calls Tryz.prog 12 #[.int .i64 v] w fun e w' => e = .returned (.bool true) ∧ Kept (fun _ => False) w w' := by
  have AL := Lib.hid (alive_true w hL)
  have HL := Lib.hid hL
  clear hL
  by_cases g1 : v < -1000000000000
  · go_enter Tryz.func12, Tryz.ntmps12
    go_wp2_with fail
    refine AL.out.mono ?_
    rintro e w1 ⟨rfl, hk⟩
    have HK := Lib.hid hk
    clear hk
    go_wp2_with fail
    go_ret
    exact ⟨rfl, HK.out⟩
  by_cases g2 : 1000000000000 < v
  · go_enter Tryz.func12, Tryz.ntmps12
    go_wp2_with fail
    refine AL.out.mono ?_
    rintro e w1 ⟨rfl, hk⟩
    have HK := Lib.hid hk
    clear hk
    go_wp2_with fail
    go_ret
    exact ⟨rfl, HK.out⟩
  have DG := Lib.hid (fun W => ref_digits v W (by omega) (by omega))
  have hsz : (itoaB v).size ≤ 500 := itoaB_few (by omega) (by omega)
  have N0 := Lib.hid (fun W hL => cnum (itoaB v) W hL (by omega))
  have N1 := Lib.hid (fun W hL => cnum (⟨#[48]⟩ ++ itoaB v) W hL (by rw [ByteArray.size_append]; show 1 + _ ≤ _; omega))
  have N2 := Lib.hid (fun W hL => cnum (⟨#[43]⟩ ++ itoaB v) W hL (by rw [ByteArray.size_append]; show 1 + _ ≤ _; omega))
  have N3 := Lib.hid (fun W hL => cnum (itoaB v ++ ⟨#[32]⟩) W hL (by rw [ByteArray.size_append]; show _ + 1 ≤ _; omega))
  rw [number_itoa (by omega) (by omega), show numV (some v) = .tuple #[.int .i64 v, .bool true] from rfl] at N0
  rw [number_zero, show numV none = .tuple #[.int .i64 0, .bool false] from rfl] at N1
  rw [number_plus, show numV none = .tuple #[.int .i64 0, .bool false] from rfl] at N2
  rw [number_space, show numV none = .tuple #[.int .i64 0, .bool false] from rfl] at N3
  generalize itoaB v = t at *
  go_enter Tryz.func12, Tryz.ntmps12
  go_wp2_with fail
  refine AL.out.mono ?_
  rintro e w1 ⟨rfl, hk⟩
  have HK1 := Lib.hid hk
  clear hk
  go_wp2_with fail
  refine (DG.out _).mono ?_
  rintro e w2 ⟨rfl, hk2⟩
  have HK2 := Lib.hid (HK1.out.trans hk2 (fun _ _ h => h))
  clear hk2
  go_wp2_with fail
  refine (N0.out _ (HL.out.kept0 HK2.out)).mono ?_
  rintro e w3 ⟨rfl, hk3⟩
  have HK3 := Lib.hid (HK2.out.trans hk3 (fun _ _ h => h))
  clear hk3
  go_wp2_with fail
  refine (N1.out _ (HL.out.kept0 HK3.out)).mono ?_
  rintro e w4 ⟨rfl, hk4⟩
  have HK4 := Lib.hid (HK3.out.trans hk4 (fun _ _ h => h))
  clear hk4
  go_wp2_with fail
  refine (N2.out _ (HL.out.kept0 HK4.out)).mono ?_
  rintro e w5 ⟨rfl, hk5⟩
  have HK5 := Lib.hid (HK4.out.trans hk5 (fun _ _ h => h))
  clear hk5
  go_wp2_with fail
  refine (N3.out _ (HL.out.kept0 HK5.out)).mono ?_
  rintro e w6 ⟨rfl, hk6⟩
  have HK6 := Lib.hid (HK5.out.trans hk6 (fun _ _ h => h))
  clear hk6
  go_wp2_with fail
  go_ret
  exact ⟨by first | rfl | (simp [numV]; done), HK6.out⟩
end Go.Proofs.YtehpafebpgndeaaGreatDoor
