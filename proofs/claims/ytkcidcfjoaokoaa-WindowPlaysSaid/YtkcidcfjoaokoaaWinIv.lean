/-
  A Window whose numbers ahead are a stretch: takes in words of stretches.
-/
import Derived.Test.YtkcidcfjoaokoaaAhead
namespace Go.Proofs.Ytkcidcfjoaokoaa
set_option linter.unusedVariables false
set_option linter.unusedSimpArgs false
set_option linter.unnecessarySimpa false
open Go.RowKit Go.Maps
set_option maxRecDepth 100000

def iv (lo hi : Int) (y : Int) : Bool := decide (lo ≤ y) && decide (y < hi)
theorem iv_iff {lo hi y : Int} : iv lo hi y = true ↔ lo ≤ y ∧ y < hi := by simp [iv]
theorem iv_false {lo hi y : Int} : iv lo hi y = false ↔ ¬ (lo ≤ y ∧ y < hi) := by rw [← iv_iff, Bool.not_eq_true]
theorem iv_none (a b : Int) (h : b ≤ a) : iv a b = fun _ => false := by
  funext y
  rw [iv_false]
  omega
theorem plus_above {lo hi : Int} (h : lo ≤ hi) : plus (iv lo hi) hi = iv lo (hi + 1) := by
  funext y
  rw [Bool.eq_iff_iff, iv_iff]
  simp only [plus, Bool.or_eq_true, iv_iff, decide_eq_true_eq]
  omega
theorem plus_below {lo hi : Int} (h : lo + 1 ≤ hi) : plus (iv (lo + 1) hi) lo = iv lo hi := by
  funext y
  rw [Bool.eq_iff_iff, iv_iff]
  simp only [plus, Bool.or_eq_true, iv_iff, decide_eq_true_eq]
  omega

theorem take_iv {w w' : World} {b : Nat} {next : Int} {cnt : Nat} {S : Int → Bool} {x lo hi : Int} (h : TakeOwn w w' b next cnt S x) (hm : mayB next S x = true) (hp : plus S x = iv lo hi) (hlt : lo < hi) :
    (lo = next → ∃ c, c ≤ cnt + 1 ∧ OwnW w w' b hi c (fun _ => false)) ∧ (next < lo → ∃ c, c ≤ cnt + 1 ∧ OwnW w w' b next c (iv lo hi)) := by
  obtain ⟨n, c, S', ho, g1, g2, g3, _, g5⟩ := h
  obtain ⟨e1, e2, e3⟩ := g5 hm
  rw [hp] at e1 e2 e3
  rw [iv_false] at e3
  constructor
  · rintro rfl
    have hn : n = hi := by
      rcases Int.lt_trichotomy n hi with h | h | h
      · omega
      · exact h
      · have := e2 hi (by omega) h
        rw [iv_iff] at this
        omega
    subst hn
    refine ⟨c, g3, ?_⟩
    have : S' = fun _ => false := by
      rw [e1]
      funext y
      simp [from_, iv]
    exact this ▸ ho
  · intro hlo
    have hn : n = next := by
      rcases Int.lt_or_le next n with h | h
      · have := e2 next (by omega) h
        rw [iv_iff] at this
        omega
      · omega
    subst hn
    refine ⟨c, g3, ?_⟩
    have : S' = iv lo hi := by
      rw [e1]
      funext y
      rw [Bool.eq_iff_iff]
      simp only [from_, Bool.and_eq_true, iv_iff, decide_eq_true_eq]
      omega
    exact this ▸ ho

/-- Take of a number that is not let. -/
theorem take_not {w w1 : World} (b : Nat) (next : Int) (cnt : Nat) (S : Int → Bool) (x : Int) (h : OwnW w w1 b next cnt S) (hm : mayB next S x = false) (hn1 : next ≤ 1000000000) (hc : cnt ≤ 1000000000) (hx0 : -9223372036854775808 ≤ x) (hx1 : x ≤ 9223372036854775807) :
    Calls Try.prog 9 #[.pointer (some ⟨b, 0, none⟩), .int .i64 x] w1 fun e w' => e = .returned (.bool false) ∧ ∃ c, c ≤ cnt + 1 ∧ OwnW w w' b next c S := by
  refine (take_own b next cnt S x h hn1 hc hx0 hx1).mono ?_
  rintro e w' ⟨rfl, n, c, S', ho, g1, g2, g3, g4, g5⟩
  obtain ⟨rfl, rfl⟩ := g4 hm
  exact ⟨by rw [hm], c, g3, ho⟩
/-- The next number. -/
theorem take_next {w w1 : World} (b : Nat) (k : Int) (cnt : Nat) (h : OwnW w w1 b k cnt (fun _ => false)) (hn0 : 0 ≤ k) (hn1 : k ≤ 1000000000) (hc : cnt ≤ 1000000000) :
    Calls Try.prog 9 #[.pointer (some ⟨b, 0, none⟩), .int .i64 k] w1 fun e w' => e = .returned (.bool true) ∧ ∃ c, c ≤ cnt + 1 ∧ OwnW w w' b (k + 1) c (fun _ => false) := by
  have hm : mayB k (fun _ => false) k = true := by simp [mayB]
  have hp : plus (fun _ => false) k = iv k (k + 1) := by rw [← iv_none k k (Int.le_refl _)]; exact plus_above (Int.le_refl _)
  refine (take_own b k cnt _ k h hn1 hc (by omega) (by omega)).mono ?_
  rintro e w' ⟨rfl, ht⟩
  exact ⟨by rw [hm], (take_iv ht hm hp (by omega)).1 rfl⟩
/-- One more above a gap. -/
theorem take_above {w w1 : World} (b : Nat) (g : Int) (j : Nat) (cnt : Nat) (h : OwnW w w1 b g cnt (iv (g + 1) (g + 1 + j))) (hn0 : 0 ≤ g) (hn1 : g ≤ 1000000000) (hc : cnt ≤ 1000000000) (hj : j ≤ 62) :
    Calls Try.prog 9 #[.pointer (some ⟨b, 0, none⟩), .int .i64 (g + 1 + j)] w1 fun e w' => e = .returned (.bool true) ∧ ∃ c, c ≤ cnt + 1 ∧ OwnW w w' b g c (iv (g + 1) (g + 1 + (j + 1 : Nat))) := by
  have hm : mayB g (iv (g + 1) (g + 1 + j)) (g + 1 + j) = true := by
    simp only [mayB, Bool.and_eq_true, decide_eq_true_eq, Bool.not_eq_true', iv_false]
    omega
  have hp : plus (iv (g + 1) (g + 1 + j)) (g + 1 + j) = iv (g + 1) (g + 1 + (j + 1 : Nat)) := by
    rw [plus_above (by omega)]
    congr 1
    omega
  refine (take_own b g cnt _ _ h hn1 hc (by omega) (by omega)).mono ?_
  rintro e w' ⟨rfl, ht⟩
  exact ⟨by rw [hm], (take_iv ht hm hp (by omega)).2 (by omega)⟩
/-- The gap itself. -/
theorem take_gap {w w1 : World} (b : Nat) (g : Int) (j : Nat) (cnt : Nat) (h : OwnW w w1 b g cnt (iv (g + 1) (g + 1 + j))) (hn0 : 0 ≤ g) (hn1 : g ≤ 1000000000) (hc : cnt ≤ 1000000000) :
    Calls Try.prog 9 #[.pointer (some ⟨b, 0, none⟩), .int .i64 g] w1 fun e w' => e = .returned (.bool true) ∧ ∃ c, c ≤ cnt + 1 ∧ OwnW w w' b (g + 1 + j) c (fun _ => false) := by
  have hm : mayB g (iv (g + 1) (g + 1 + j)) g = true := by
    simp only [mayB, Bool.and_eq_true, decide_eq_true_eq, Bool.not_eq_true', iv_false]
    omega
  refine (take_own b g cnt _ _ h hn1 hc (by omega) (by omega)).mono ?_
  rintro e w' ⟨rfl, ht⟩
  exact ⟨by rw [hm], (take_iv ht hm (plus_below (by omega)) (by omega)).1 rfl⟩

theorem aheadL_none (next : Int) : aheadL next (fun _ => false) = [] := by
  unfold aheadL
  simp
theorem aheadL_iv (g : Int) (j : Nat) (hj : j ≤ 63) : (aheadL g (iv (g + 1) (g + 1 + j))).length = j := by
  have h : aheadL g (iv (g + 1) (g + 1 + j)) = (List.range' 1 j).map fun i : Nat => g + (i : Int) := by
    refine (List.Perm.eq_of_pairwise (le := fun a b : Int => a < b) (fun a b _ _ h1 h2 => by omega) (aheadL_rising _ _) ?_ ?_)
    · rw [List.pairwise_map]
      refine List.Pairwise.imp ?_ List.pairwise_lt_range'
      intro a b h
      omega
    · refine (List.perm_ext_iff_of_nodup (aheadL_nodup _ _) ?_).2 fun y => ?_
      · unfold List.Nodup
        rw [List.pairwise_map]
        refine List.Pairwise.imp ?_ List.pairwise_lt_range'
        intro a b h
        omega
      · rw [aheadL_mem (fun z hz => by rw [iv_iff] at hz; omega), iv_iff, List.mem_map]
        constructor
        · intro h
          exact ⟨(y - g).toNat, by rw [List.mem_range'_1]; omega, by omega⟩
        · rintro ⟨i, hi, rfl⟩
          rw [List.mem_range'_1] at hi
          omega
  rw [h]
  simp
/-- How many are ahead. -/
theorem ahead_len {w w1 : World} (b : Nat) (next : Int) (cnt : Nat) (S : Int → Bool) (n : Nat) (h : OwnW w w1 b next cnt S) (hc : cnt ≤ 1000000000) (hn : (aheadL next S).length = n) :
    Calls Try.prog 11 #[.pointer (some ⟨b, 0, none⟩)] w1 fun e w' => ∃ ao cap, e = .returned (.slice ao n cap) ∧ OwnW w w' b next cnt S := by
  subst hn
  refine (ahead_own b next cnt S h hc).mono ?_
  rintro e w' ⟨v, rfl, hv⟩
  obtain ⟨ao, cap, rfl, _⟩ := (Rd.of_sl hv.1).shape
  exact ⟨ao, cap, rfl, h.kept hv.2.1⟩
end Go.Proofs.Ytkcidcfjoaokoaa
