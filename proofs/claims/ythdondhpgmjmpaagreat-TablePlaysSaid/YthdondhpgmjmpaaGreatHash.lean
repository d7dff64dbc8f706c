/-
  table.Hash: a number of a text, reckoned byte by byte.
-/
import Derived.Test.YthdondhpgmjmpaaGreatProg
import Derived.Test.YthdondhpgmjmpaaGreatLib
import Derived.BigRegion
import Derived.Laws.BitsAllLaws
import Derived.Deep.LoopGhost
namespace Go.Proofs.YthdondhpgmjmpaaGreat
set_option linter.unusedVariables false
set_option linter.unusedSimpArgs false
set_option linter.unnecessarySimpa false
open Go.RowKit

/-- One byte more. -/
def hashStep (x : Nat) (c : UInt8) : Nat := (x ^^^ c.toNat) * 16777619 % 4294967296
/-- The hash of a text under a seed. -/
def hashN (s : ByteArray) (seed : Nat) : Nat := s.data.toList.foldl hashStep (seed ^^^ 2166136261)

theorem xor_lt32 {a b : Nat} (ha : a < 4294967296) (hb : b < 4294967296) : a ^^^ b < 4294967296 := by
  have := Nat.xor_lt_two_pow (n := 32) (x := a) (y := b) (by simpa using ha) (by simpa using hb)
  simpa using this
theorem hashStep_lt (x : Nat) (c : UInt8) : hashStep x c < 4294967296 := Nat.mod_lt _ (by decide)
theorem fold_lt : ∀ (l : List UInt8) (x : Nat), x < 4294967296 → l.foldl hashStep x < 4294967296
  | [], _, h => h
  | c :: l, _, _ => fold_lt l _ (hashStep_lt _ c)
theorem hashN_lt (s : ByteArray) (seed : Nat) (h : seed < 4294967296) : hashN s seed < 4294967296 := by
  unfold hashN
  exact fold_lt _ _ (xor_lt32 h (by omega))

theorem fold_next (s : ByteArray) (x : Nat) {i : Nat} (h : i < s.size) : (s.data.toList.take (i + 1)).foldl hashStep x = hashStep ((s.data.toList.take i).foldl hashStep x) s[i] := by
  have hl : i < s.data.toList.length := by simpa using h
  have hc : s.data.toList[i] = s[i] := by simp [ByteArray.getElem_eq_getElem_data]
  rw [List.take_succ_eq_append_getElem hl, List.foldl_append, hc, List.foldl_cons, List.foldl_nil]
theorem hash_bits {y : Nat} (c : UInt8) (hy : y < 4294967296) : bits .xor .u32 (y : Int) ((c.toNat : Int) % 4294967296) * 16777619 % 4294967296 = (hashStep y c : Nat) := by
  have hc : c.toNat < 256 := c.toNat_lt
  rw [show (c.toNat : Int) % 4294967296 = (c.toNat : Nat) by omega, u32_xor_nat y c.toNat hy (by omega)]
  unfold hashStep
  omega

set_option maxRecDepth 100000 in
set_option maxHeartbeats 800000 in
theorem hash_any (s : ByteArray) (seed : Nat) (w : World) (hs : seed < 4294967296) (hsz : s.size ≤ 1000000000) :
    Calls Tryz.prog 11 #[.string s, .int .u32 (seed : Int)] w fun e w' => e = .returned (.int .u32 (hashN s seed : Nat)) ∧ w = w' := by
  have hx : bits .xor .u32 (seed : Int) 2166136261 = ((seed ^^^ 2166136261 : Nat) : Int) := u32_xor_nat seed 2166136261 hs (by omega)
  have hx0 := Lib.hid hx
  clear hx
  go_enter Tryz.func11, Tryz.ntmps11
  go_wp2_with fail
  go_loopg [5, 11] s.size (fun g x k wr => ∃ (i y : Nat), i + g = s.size ∧ k = .int .i64 (i : Int) ∧ x = .int .u32 (y : Int) ∧ y < 4294967296 ∧ (s.data.toList.take i).foldl hashStep (seed ^^^ 2166136261) = y ∧ w = wr)
  case atStart => exact ⟨0, seed ^^^ 2166136261, by omega, rfl, congrArg _ hx0.out, xor_lt32 hs (by omega), by simp, rfl⟩
  case round =>
    obtain ⟨i, y, hi, rfl, rfl, hy, hf, rfl⟩ := hrel
    have HF := Lib.hid hf
    clear hf
    by_cases hlt : (i : Int) < s.size
    · have hl : i < s.size := by omega
      go_wp2_with fail
      go_roundg (gk - 1)
      case measure => omega
      case rel => exact ⟨i + 1, _, by omega, by go_num, congrArg _ (hash_bits s[i] hy), hashStep_lt _ _, by rw [fold_next s _ hl, HF.out], rfl⟩
    · go_wp2_with fail
      go_ret
      have : i = s.size := by omega
      subst this
      rw [List.take_of_length_le (by simp)] at HF
      unfold hashN
      rw [HF.out]
      exact ⟨rfl, rfl⟩

/-- What comes behind a text goes on from its hash. -/
theorem hashN_append (a b : ByteArray) (seed : Nat) : hashN (a ++ b) seed = hashN b (hashN a seed ^^^ 2166136261) := by
  unfold hashN
  rw [ByteArray.data_append, Array.toList_append, List.foldl_append, Nat.xor_assoc, Nat.xor_self, Nat.xor_zero]
theorem hashN_empty (seed : Nat) : hashN ByteArray.empty seed = seed ^^^ 2166136261 := rfl
end Go.Proofs.YthdondhpgmjmpaaGreat
