/-
  alive.
-/
import Derived.Test.YthdondhpgmjmpaaGreatTabF
namespace Go.Proofs.YthdondhpgmjmpaaGreat
set_option linter.unusedVariables false
set_option linter.unusedSimpArgs false
set_option linter.unnecessarySimpa false
open Go.RowKit
set_option maxRecDepth 100000

def keyA : ByteArray := ⟨#[97]⟩
def itA1 : It := ⟨⟨#[97]⟩, ⟨#[]⟩, 1, 0⟩
def itA2 : It := ⟨⟨#[97]⟩, ⟨#[]⟩, 2, 0⟩

theorem alive_any (w : World) : Calls Tryz.prog 4 #[] w fun e w' => e = .returned (.bool true) ∧ Kept (fun _ => False) w w' := by
  have hh : hashN ByteArray.empty 0 = 2166136261 := rfl
  go_enter Tryz.func4, Tryz.ntmps4
  go_wp2_with fail
  refine (own_new (w0 := w) 7 (by omega) (Kept.refl _ _)).mono ?_
  rintro e w1 ⟨b, rfl, h0⟩
  go_wp2_with fail
  refine (own_put (r := true) (S' := 8) (L' := [itA1]) itA1 h0 (by omega) (by decide) rfl rfl rfl).mono ?_
  rintro e w2 ⟨rfl, h1⟩
  clear h0
  go_wp2_with fail
  refine (own_put (r := false) (S' := 8) (L' := [itA2]) itA2 h1 (by omega) (by decide) rfl rfl rfl).mono ?_
  rintro e w3 ⟨rfl, h2⟩
  clear h1
  go_wp2_with fail
  refine (own_get (r := .tuple #[.agg #[.string ⟨#[97]⟩, .string ⟨#[]⟩, .int .i64 2, .int .i64 0], .bool true]) keyA h2 (by omega) (by decide) rfl).mono ?_
  rintro e w4 ⟨rfl, h3⟩
  clear h2
  go_wp2_with fail
  refine (own_len (h3.kept ((Kept.refl _ _).alloc _))).mono ?_
  rintro e w5 ⟨rfl, rfl⟩
  go_wp2_with fail
  refine (own_slots (h3.kept ((Kept.refl _ _).alloc _))).mono ?_
  rintro e w6 ⟨rfl, h4⟩
  clear h3
  go_wp2_with fail
  refine (hash_any ByteArray.empty 0 _ (by omega) (by decide)).mono ?_
  rintro e w7 ⟨rfl, rfl⟩
  rw [hh]
  go_wp2_with fail
  go_ret
  exact ⟨rfl, h4.1⟩
end Go.Proofs.YthdondhpgmjmpaaGreat
