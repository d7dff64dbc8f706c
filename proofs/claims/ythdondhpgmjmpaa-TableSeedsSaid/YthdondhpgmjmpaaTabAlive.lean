/-
  alive, and the law TableHashes.
-/
import Derived.Test.YthdondhpgmjmpaaTabF
namespace Go.Proofs.Ythdondhpgmjmpaa
open Go.RowKit
set_option maxRecDepth 100000

def keyA : ByteArray := ⟨#[97]⟩
def itA1 : It := ⟨⟨#[97]⟩, ⟨#[]⟩, 1, 0⟩
def itA2 : It := ⟨⟨#[97]⟩, ⟨#[]⟩, 2, 0⟩

theorem alive_any (w : World) : Calls Try.prog 7 #[] w fun e w' => e = .returned (.bool true) ∧ Kept (fun _ => False) w w' := by
  have hh : hashN ByteArray.empty 0 = 2166136261 := rfl
  go_enter Try.func7, Try.ntmps7
  go_wp2_with fail
  refine (own_new (w0 := w) 7 (by omega) (Kept.refl _ _)).mono ?_
  rintro e w1 ⟨b, rfl, h0⟩
  go_wp2_with fail
  refine (own_put (r := true) (S' := 8) (L' := [itA1]) itA1 h0 (by omega) (by decide) rfl rfl rfl).mono ?_
  rintro e w2 ⟨rfl, h1⟩
  clear h0
  go_wp2_with fail
  refine (own_put (r := false) (S' := 8) (L' := [itA2]) itA2 h1 (by omega) (by decide) rfl rfl rfl).mono ?_
  rintro e w3 ⟨rfl, h2⟩
  clear h1
  go_wp2_with fail
  refine (own_get (r := .tuple #[.agg #[.string ⟨#[97]⟩, .string ⟨#[]⟩, .int .i64 2, .int .i64 0], .bool true]) keyA h2 (by omega) (by decide) rfl).mono ?_
  rintro e w4 ⟨rfl, h3⟩
  clear h2
  go_wp2_with fail
  refine (own_len (h3.kept ((Kept.refl _ _).alloc _))).mono ?_
  rintro e w5 ⟨rfl, rfl⟩
  go_wp2_with fail
  refine (own_slots (h3.kept ((Kept.refl _ _).alloc _))).mono ?_
  rintro e w6 ⟨rfl, h4⟩
  clear h3
  go_wp2_with fail
  refine (hash_any ByteArray.empty 0 _ (by omega) (by decide)).mono ?_
  rintro e w7 ⟨rfl, rfl⟩
  rw [hh]
  go_wp2_with fail
  go_ret
  exact ⟨rfl, h4.1⟩

theorem tableHashes_walk (a b : ByteArray) (seed : Int) (w : World) (h0 : 0 ≤ seed) (h1 : seed ≤ 4294967295) :
    Calls Try.prog 3 #[.string a, .string b, .int .u32 seed] w fun e w' => e = .returned (.bool true) ∧ Kept (fun _ => False) w w' := by
  obtain ⟨s, rfl⟩ : ∃ s : Nat, seed = s := ⟨seed.toNat, by omega⟩
  have hs : s < 4294967296 := by omega
  by_cases c1 : (200 : Int) < a.size
  · go_enter Try.func3, Try.ntmps3
    go_wp2_with fail
    refine (alive_any _).mono ?_
    rintro e w1 ⟨rfl, hk⟩
    go_wp2_with fail
    go_ret
    exact ⟨rfl, hk⟩
  by_cases c2 : (200 : Int) < b.size
  · go_enter Try.func3, Try.ntmps3
    go_wp2_with fail
    refine (alive_any _).mono ?_
    rintro e w1 ⟨rfl, hk⟩
    go_wp2_with fail
    go_ret
    exact ⟨rfl, hk⟩
  go_enter Try.func3, Try.ntmps3
  go_wp2_with fail
  refine (alive_any _).mono ?_
  rintro e w1 ⟨rfl, hk⟩
  go_wp2_with fail
  refine (hash_any a s _ hs (by omega)).mono ?_
  rintro e w2 ⟨rfl, rfl⟩
  have ha := hashN_lt a s hs
  have happ := hashN_append a b s
  have hemp := hashN_empty s
  have hlt2 := xor_lt32 ha (show 2166136261 < 4294967296 by omega)
  have hx1 : bits .xor .u32 (hashN a s : Int) 2166136261 = ((hashN a s ^^^ 2166136261 : Nat) : Int) := u32_xor_nat (hashN a s) 2166136261 ha (by omega)
  have hx2 : bits .xor .u32 (s : Int) 2166136261 = ((s ^^^ 2166136261 : Nat) : Int) := u32_xor_nat s 2166136261 hs (by omega)
  have HAPP := Lib.hid happ
  have HEMP := Lib.hid hemp
  have HL := Lib.hid hlt2
  have HX1 := Lib.hid hx1
  have HX2 := Lib.hid hx2
  have hsz : (a ++ b).size ≤ 1000000000 := by rw [ByteArray.size_append]; omega
  have HSZ := Lib.hid hsz
  clear ha happ hemp hlt2 hx1 hx2 hsz
  go_wp2_with fail
  refine (hash_any (a ++ b) s _ hs HSZ.out).mono ?_
  rintro e w3 ⟨rfl, rfl⟩
  rw [HAPP.out]
  go_wp2_with fail
  rw [HX1.out]
  refine (hash_any b _ _ HL.out (by omega)).mono ?_
  rintro e w3 ⟨rfl, rfl⟩
  generalize hashN b (hashN a s ^^^ 2166136261) = h2
  go_wp2_with fail
  refine (hash_any ByteArray.empty s _ hs (by decide)).mono ?_
  rintro e w3 ⟨rfl, rfl⟩
  rw [HEMP.out]
  have hx2 := HX2.out
  go_wp2_with fail
  go_ret
  exact ⟨rfl, hk⟩
end Go.Proofs.Ythdondhpgmjmpaa
