/-
  Package window in words of sets: a Window that is let take numbers; alive answers true.
-/
import Derived.Test.YtkcidcfjoaokoaaWinA
namespace Go.Proofs.Ytkcidcfjoaokoaa
set_option linter.unusedVariables false
set_option linter.unusedSimpArgs false
set_option linter.unnecessarySimpa false
open Go.RowKit Go.Maps

/-- A Window in memory, between two calls. -/
def WinSt (w : World) (b : Nat) (next : Int) (mo : Option Nat) (cnt : Nat) (S : Int → Bool) : Prop :=
  WinAt w b next mo cnt S ∧ 0 ≤ next ∧ ∀ y, S y = true → next < y ∧ y < next + 64

theorem WinSt.kept {w w' : World} {b : Nat} {next : Int} {mo : Option Nat} {cnt : Nat} {S : Int → Bool} {F : Nat → Prop} (h : WinSt w b next mo cnt S) (hk : Kept F w w') (hF : ∀ k, winF b mo k → ¬ F k) : WinSt w' b next mo cnt S := by
  obtain ⟨⟨h1, h2⟩, h3⟩ := h
  refine ⟨⟨(hk.block b (lt_of_block h1) (hF b (.inl rfl))).trans h1, ?_⟩, h3⟩
  cases mo with
  | none => exact h2
  | some mb => exact ⟨h2.1.kept hk (hF mb (.inr rfl)), h2.2⟩
theorem WinSt.lt {w : World} {b : Nat} {next : Int} {mo : Option Nat} {cnt : Nat} {S : Int → Bool} (h : WinSt w b next mo cnt S) {k : Nat} (hk : winF b mo k) : k < w.heap.size := by
  obtain ⟨⟨h1, h2⟩, _⟩ := h
  rcases hk with rfl | rfl
  · exact lt_of_block h1
  · exact h2.1.lt

/-- Behind a Take, whatever it answered. -/
def TakeRes (w w' : World) (b : Nat) (next : Int) (mo : Option Nat) (cnt : Nat) (S : Int → Bool) (x : Int) : Prop :=
  ∃ next' mo' cnt' S', WinSt w' b next' mo' cnt' S' ∧ next ≤ next' ∧ next' ≤ next + 64 ∧ cnt' ≤ cnt + 1 ∧ Kept (winF b mo) w w' ∧ (∀ k, winF b mo' k → winF b mo k ∨ w.heap.size ≤ k) ∧
    (mayB next S x = false → next' = next ∧ S' = S) ∧ (mayB next S x = true → S' = from_ next' (plus S x) ∧ (∀ k, next ≤ k → k < next' → plus S x k = true) ∧ plus S x next' = false)

theorem take_any (b : Nat) (next : Int) (mo : Option Nat) (cnt : Nat) (S : Int → Bool) (x : Int) (w : World) (h : WinSt w b next mo cnt S) (hn1 : next ≤ 1000000000) (hc : cnt ≤ 1000000000) (hx0 : -9223372036854775808 ≤ x) (hx1 : x ≤ 9223372036854775807) :
    Calls Try.prog 9 #[.pointer (some ⟨b, 0, none⟩), .int .i64 x] w fun e w' => e = .returned (.bool (mayB next S x)) ∧ TakeRes w w' b next mo cnt S x := by
  cases hm : mayB next S x with
  | false =>
    refine (take_no b next mo cnt S x w h.1 h.2.1 hx0 hx1 hm).mono ?_
    rintro e w' ⟨rfl, rfl⟩
    exact ⟨rfl, next, mo, cnt, S, h, by omega, by omega, by omega, Kept.refl _ _, fun k hk => .inl hk, fun _ => ⟨rfl, rfl⟩, fun h => by rw [hm] at h; cases h⟩
  | true =>
    refine (take_yes b next mo cnt S x w h.1 h.2.1 hn1 hc (fun y hy => by have := h.2.2 y hy; omega) hx0 hx1 hm).mono ?_
    rintro e w' ⟨rfl, next', mo', cnt', h1, h2, h3, h4, h5, h6, h7, h8⟩
    refine ⟨rfl, next', mo', cnt', _, ⟨h1, by have := h.2.1; omega, fun y hy => ?_⟩, h2, h3, h6, h7, h8, (fun h => by rw [hm] at h; cases h), fun _ => ⟨rfl, h4, h5⟩⟩
    simp only [from_, Bool.and_eq_true, decide_eq_true_eq] at hy
    have hne : y ≠ next' := fun e => by rw [e, h5] at hy; cases hy.1
    refine ⟨by omega, ?_⟩
    have hp := hy.1
    simp only [plus, Bool.or_eq_true, decide_eq_true_eq] at hp
    rcases hp with hp | rfl
    · have := h.2.2 y hp; omega
    · simp only [mayB, Bool.and_eq_true, decide_eq_true_eq] at hm
      omega

theorem may_st (b : Nat) (next : Int) (mo : Option Nat) (cnt : Nat) (S : Int → Bool) (x : Int) (w : World) (h : WinSt w b next mo cnt S) (hx0 : -9223372036854775808 ≤ x) (hx1 : x ≤ 9223372036854775807) :
    Calls Try.prog 10 #[.pointer (some ⟨b, 0, none⟩), .int .i64 x] w fun e w' => e = .returned (.bool (mayB next S x)) ∧ w = w' := may_any b next mo cnt S x w h.1 h.2.1 hx0 hx1
theorem next_st (b : Nat) (next : Int) (mo : Option Nat) (cnt : Nat) (S : Int → Bool) (w : World) (h : WinSt w b next mo cnt S) :
    Calls Try.prog 13 #[.pointer (some ⟨b, 0, none⟩)] w fun e w' => e = .returned (.int .i64 next) ∧ w = w' := next_any b next mo cnt S w h.1

/-- A new one. -/
theorem win_new (w : World) : WinSt (w.alloc (.cells #[.int .i64 0, .map none] 32)) w.heap.size 0 none 0 (fun _ => false) :=
  ⟨⟨heap_alloc_new w _, rfl, fun _ => rfl⟩, by omega, fun y hy => by cases hy⟩

/-- A Window of the call's own. -/
def OwnW (w w' : World) (b : Nat) (next : Int) (cnt : Nat) (S : Int → Bool) : Prop := ∃ mo, WinSt w' b next mo cnt S ∧ Kept (fun _ => False) w w' ∧ ∀ k, winF b mo k → w.heap.size ≤ k

theorem OwnW.new {w w1 : World} (hk : Kept (fun _ => False) w w1) : OwnW w (w1.alloc (.cells #[.int .i64 0, .map none] 32)) w1.heap.size 0 0 (fun _ => false) :=
  ⟨none, win_new w1, hk.alloc _, fun k h => by
    rcases h with rfl | h
    · exact hk.size
    · cases h⟩

/-- What a Take does to a Window of the call's own. -/
def TakeOwn (w w' : World) (b : Nat) (next : Int) (cnt : Nat) (S : Int → Bool) (x : Int) : Prop :=
  ∃ next' cnt' S', OwnW w w' b next' cnt' S' ∧ next ≤ next' ∧ next' ≤ next + 64 ∧ cnt' ≤ cnt + 1 ∧
    (mayB next S x = false → next' = next ∧ S' = S) ∧ (mayB next S x = true → S' = from_ next' (plus S x) ∧ (∀ k, next ≤ k → k < next' → plus S x k = true) ∧ plus S x next' = false)

theorem take_own {w w1 : World} (b : Nat) (next : Int) (cnt : Nat) (S : Int → Bool) (x : Int) (h : OwnW w w1 b next cnt S) (hn1 : next ≤ 1000000000) (hc : cnt ≤ 1000000000) (hx0 : -9223372036854775808 ≤ x) (hx1 : x ≤ 9223372036854775807) :
    Calls Try.prog 9 #[.pointer (some ⟨b, 0, none⟩), .int .i64 x] w1 fun e w' => e = .returned (.bool (mayB next S x)) ∧ TakeOwn w w' b next cnt S x := by
  obtain ⟨mo, h1, h2, h3⟩ := h
  refine (take_any b next mo cnt S x w1 h1 hn1 hc hx0 hx1).mono ?_
  rintro e w' ⟨rfl, next', mo', cnt', S', g1, g2, g3, g4, g5, g6, g7, g8⟩
  refine ⟨rfl, next', cnt', S', ⟨mo', g1, h2.trans g5 (fun i hi hs => by have := h3 i hs; omega), fun k hk => ?_⟩, g2, g3, g4, g7, g8⟩
  rcases g6 k hk with h | h
  · exact h3 k h
  · have := h2.size; omega

theorem may_own {w w1 : World} (b : Nat) (next : Int) (cnt : Nat) (S : Int → Bool) (x : Int) (r : Bool) (hr : mayB next S x = r) (h : OwnW w w1 b next cnt S) (hx0 : -9223372036854775808 ≤ x) (hx1 : x ≤ 9223372036854775807) :
    Calls Try.prog 10 #[.pointer (some ⟨b, 0, none⟩), .int .i64 x] w1 fun e w' => e = .returned (.bool r) ∧ w1 = w' := by
  obtain ⟨mo, h1, _⟩ := h
  exact hr ▸ may_st b next mo cnt S x w1 h1 hx0 hx1
theorem next_own {w w1 : World} (b : Nat) (next : Int) (cnt : Nat) (S : Int → Bool) (h : OwnW w w1 b next cnt S) :
    Calls Try.prog 13 #[.pointer (some ⟨b, 0, none⟩)] w1 fun e w' => e = .returned (.int .i64 next) ∧ w1 = w' := by
  obtain ⟨mo, h1, _⟩ := h
  exact next_st b next mo cnt S w1 h1

/-- Behind Take(1), Take(0) on a new one: next 2, none ahead. -/
theorem two_taken {w w1 : World} {b : Nat} (h1 : TakeOwn w w1 b 0 0 (fun _ => false) 1) : ∃ c1 S1, OwnW w w1 b 0 c1 S1 ∧ c1 ≤ 1 ∧ (∀ y, S1 y = decide (y = 1)) := by
  obtain ⟨n, c, S, ho, g1, g2, g3, _, g5⟩ := h1
  obtain ⟨e1, e2, e3⟩ := g5 (by decide)
  have hn : n = 0 := by
    rcases Int.lt_or_le 0 n with h | h
    · have := e2 0 (by omega) h
      simp [plus] at this
    · omega
  subst hn
  refine ⟨c, S, ho, g3, fun y => ?_⟩
  rw [e1]
  simp [from_, plus]
  omega
theorem two_taken2 {w w1 : World} {b c : Nat} {S : Int → Bool} (hS : ∀ y, S y = decide (y = 1)) (h1 : TakeOwn w w1 b 0 c S 0) : ∃ c2, OwnW w w1 b 2 c2 (fun _ => false) := by
  obtain ⟨n, c2, S2, ho, g1, g2, g3, _, g5⟩ := h1
  obtain ⟨e1, e2, e3⟩ := g5 (by simp [mayB, hS])
  have p0 : plus S 0 0 = true := by simp [plus]
  have p1 : plus S 0 1 = true := by simp [plus, hS]
  have p2 : plus S 0 2 = false := by simp [plus, hS]
  have hn : n = 2 := by
    have a0 : n ≠ 0 := fun e => by rw [e, p0] at e3; cases e3
    have a1 : n ≠ 1 := fun e => by rw [e, p1] at e3; cases e3
    have a2 : n ≤ 2 := by
      rcases Int.lt_or_le 2 n with h | h
      · have := e2 2 (by omega) h
        rw [p2] at this; cases this
      · exact h
    omega
  subst hn
  have : S2 = fun _ => false := by
    rw [e1]
    funext y
    simp [from_, plus, hS]
    omega
  exact ⟨c2, this ▸ ho⟩

set_option maxRecDepth 100000 in
set_option maxHeartbeats 800000 in
theorem alive_any (w : World) : Calls Try.prog 8 #[] w fun e w' => e = .returned (.bool true) ∧ Kept (fun _ => False) w w' := by
  have hnew := OwnW.new (Kept.refl (fun _ => False) w)
  obtain ⟨b, hb⟩ : ∃ b, b = w.heap.size := ⟨_, rfl⟩
  rw [← hb] at hnew
  have HB := Lib.hid hb
  go_enter Try.func8, Try.ntmps8
  go_wp2_with fail
  rw [← hb]
  have e1 : mayB 0 (fun _ => false) 1 = true := by decide
  clear hb
  refine ((take_own b 0 0 (fun _ => false) 1 hnew (by omega) (by omega) (by omega) (by omega)).mono ?_)
  rintro e w1 ⟨rfl, ht1⟩
  rw [e1]
  obtain ⟨c1, S1, ho1, hc1, hS1⟩ := two_taken ht1
  clear ht1 hnew e1
  have e2 : mayB 0 S1 0 = true := by simp [mayB, hS1]
  have HS := Lib.hid hS1
  clear hS1
  go_wp2_with fail
  refine ((take_own b 0 c1 S1 0 ho1 (by omega) (by omega) (by omega) (by omega)).mono ?_)
  rintro e w2 ⟨rfl, ht2⟩
  rw [e2]
  obtain ⟨c2, ho2⟩ := two_taken2 HS.out ht2
  clear ht2 ho1 e2
  go_wp2_with (first | (go_at_call 13; refine (next_own b 2 c2 _ ho2).mono ?_; rintro e w3 ⟨rfl, rfl⟩) | (go_at_call_of 10 (Value.int .i64 1); refine (may_own b 2 c2 (fun _ => false) 1 false (by decide) ho2 (by omega) (by omega)).mono ?_; rintro e w3 ⟨rfl, rfl⟩) | (go_at_call_of 10 (Value.int .i64 65); refine (may_own b 2 c2 (fun _ => false) 65 true (by decide) ho2 (by omega) (by omega)).mono ?_; rintro e w3 ⟨rfl, rfl⟩) | (go_at_call_of 10 (Value.int .i64 66); refine (may_own b 2 c2 (fun _ => false) 66 false (by decide) ho2 (by omega) (by omega)).mono ?_; rintro e w3 ⟨rfl, rfl⟩))
  go_ret
  obtain ⟨mo, _, hk, _⟩ := ho2
  exact ⟨rfl, hk⟩
end Go.Proofs.Ytkcidcfjoaokoaa
