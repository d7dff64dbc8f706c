/-
  The Book's names of marks: a text of six bytes.
-/
import Derived.Test.YtgfpcjieonniiaaGreatBytes
import Derived.BigRegion
import Derived.WalkSpells
import Derived.WalkLawsBesides
namespace Go.Proofs.YtgfpcjieonniiaaGreat
set_option linter.unusedVariables false
set_option linter.unusedSimpArgs false
set_option linter.unnecessarySimpa false
open Go.RowKit

/-- The name of mark k of list i. -/
def bookName (i k : Nat) : ByteArray := strOfNums [109, ((65 + i % 26 : Nat) : Int), ((65 + i / 26 % 26 : Nat) : Int), ((48 + k % 10 : Nat) : Int), ((48 + k / 10 % 10 : Nat) : Int), ((48 + k / 100 % 10 : Nat) : Int)]

set_option maxRecDepth 100000 in
set_option maxHeartbeats 1600000 in
theorem bookName_any (i k : Nat) (w : World) (hi : i ≤ 1000) (hk : k ≤ 1000000) :
    Calls Tryz.prog 86 #[.int .i64 i, .int .i64 k] w fun e w' => e = .returned (.string (bookName i k)) ∧ Kept (fun _ => False) w w' := by
  have r1 : Int.tmod (i : Int) 26 = ((i % 26 : Nat) : Int) := by rw [Int.tmod_eq_emod_of_nonneg (by omega)]; omega
  have q1 : Int.tdiv (i : Int) 26 = ((i / 26 : Nat) : Int) := by rw [Int.tdiv_eq_ediv_of_nonneg (by omega)]; omega
  have r2 : Int.tmod ((i / 26 : Nat) : Int) 26 = ((i / 26 % 26 : Nat) : Int) := by rw [Int.tmod_eq_emod_of_nonneg (by omega)]; omega
  have r3 : Int.tmod (k : Int) 10 = ((k % 10 : Nat) : Int) := by rw [Int.tmod_eq_emod_of_nonneg (by omega)]; omega
  have q3 : Int.tdiv (k : Int) 10 = ((k / 10 : Nat) : Int) := by rw [Int.tdiv_eq_ediv_of_nonneg (by omega)]; omega
  have r4 : Int.tmod ((k / 10 : Nat) : Int) 10 = ((k / 10 % 10 : Nat) : Int) := by rw [Int.tmod_eq_emod_of_nonneg (by omega)]; omega
  have q5 : Int.tdiv (k : Int) 100 = ((k / 100 : Nat) : Int) := by rw [Int.tdiv_eq_ediv_of_nonneg (by omega)]; omega
  have r5 : Int.tmod ((k / 100 : Nat) : Int) 10 = ((k / 100 % 10 : Nat) : Int) := by rw [Int.tmod_eq_emod_of_nonneg (by omega)]; omega
  have hn := Lib.hid (show bookName i k = strOfNums [109, ((65 + i % 26 : Nat) : Int), ((65 + i / 26 % 26 : Nat) : Int), ((48 + k % 10 : Nat) : Int), ((48 + k / 10 % 10 : Nat) : Int), ((48 + k / 100 % 10 : Nat) : Int)] from rfl)
  have b1 : i % 26 < 26 := Nat.mod_lt _ (by decide)
  have b2 : i / 26 % 26 < 26 := Nat.mod_lt _ (by decide)
  have b3 : k % 10 < 10 := Nat.mod_lt _ (by decide)
  have b4 : k / 10 % 10 < 10 := Nat.mod_lt _ (by decide)
  have b5 : k / 100 % 10 < 10 := Nat.mod_lt _ (by decide)
  generalize bookName i k = out at *
  generalize hA : i % 26 = A at *
  generalize hB : i / 26 % 26 = B at *
  generalize hC : k % 10 = C at *
  generalize hD : k / 10 % 10 = D at *
  generalize hE : k / 100 % 10 = E at *
  have c1 : i / 26 ≤ 1000 := by omega
  have c2 : k / 10 ≤ 1000000 := by omega
  have c3 : k / 100 ≤ 1000000 := by omega
  clear hA hB hC hD hE
  generalize i / 26 = i2 at *
  generalize k / 10 = k2 at *
  generalize k / 100 = k3 at *
  have hcv : (convert 74 9 (.slice (some ⟨w.heap.size, 0, none⟩) 6 6)).run Tryz.prog (w.alloc (.cells #[.int .u8 109, .int .u8 (65 + (A : Int)), .int .u8 (65 + (B : Int)), .int .u8 (48 + (C : Int)), .int .u8 (48 + (D : Int)), .int .u8 (48 + (E : Int))] 5)) = .ok (.string out) (w.alloc (.cells #[.int .u8 109, .int .u8 (65 + (A : Int)), .int .u8 (65 + (B : Int)), .int .u8 (48 + (C : Int)), .int .u8 (48 + (D : Int)), .int .u8 (48 + (E : Int))] 5)) := by
    rw [hn.out]
    exact conv_new w [109, ((65 + A : Nat) : Int), ((65 + B : Nat) : Int), ((48 + C : Nat) : Int), ((48 + D : Nat) : Int), ((48 + E : Nat) : Int)]
  clear hn
  have u1 : IntKind.u8.wrap (65 + (A : Int)) = 65 + (A : Int) := IntWalk.u8_in _ (by omega)
  have u2 : IntKind.u8.wrap (65 + (B : Int)) = 65 + (B : Int) := IntWalk.u8_in _ (by omega)
  have u3 : IntKind.u8.wrap (48 + (C : Int)) = 48 + (C : Int) := IntWalk.u8_in _ (by omega)
  have u4 : IntKind.u8.wrap (48 + (D : Int)) = 48 + (D : Int) := IntWalk.u8_in _ (by omega)
  have u5 : IntKind.u8.wrap (48 + (E : Int)) = 48 + (E : Int) := IntWalk.u8_in _ (by omega)
  have v1 : IntKind.i64.wrap (65 + (A : Int)) = 65 + (A : Int) := IntWalk.i64_in _ (by omega)
  have v2 : IntKind.i64.wrap (65 + (B : Int)) = 65 + (B : Int) := IntWalk.i64_in _ (by omega)
  have v3 : IntKind.i64.wrap (48 + (C : Int)) = 48 + (C : Int) := IntWalk.i64_in _ (by omega)
  have v4 : IntKind.i64.wrap (48 + (D : Int)) = 48 + (D : Int) := IntWalk.i64_in _ (by omega)
  have v5 : IntKind.i64.wrap (48 + (E : Int)) = 48 + (E : Int) := IntWalk.i64_in _ (by omega)
  have v6 : IntKind.i64.wrap (i2 : Int) = (i2 : Int) := IntWalk.i64_in _ (by omega)
  have v7 : IntKind.i64.wrap (k2 : Int) = (k2 : Int) := IntWalk.i64_in _ (by omega)
  have v8 : IntKind.i64.wrap (k3 : Int) = (k3 : Int) := IntWalk.i64_in _ (by omega)
  go_enter Tryz.func86, Tryz.ntmps86
  go_wp2_with fail
  go_ret
  exact ⟨rfl, (Kept.refl _ _).alloc _⟩
end Go.Proofs.YtgfpcjieonniiaaGreat
