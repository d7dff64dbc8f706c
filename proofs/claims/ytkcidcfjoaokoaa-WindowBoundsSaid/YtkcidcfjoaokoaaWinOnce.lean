/-
  WindowOnce's walk: it returns true, whatever the numbers.
-/
import Derived.Test.YtkcidcfjoaokoaaWinB
namespace Go.Proofs.Ytkcidcfjoaokoaa
open Go.RowKit Go.Maps

/-- Has a number been taken? -/
def Taken (next : Int) (S : Int → Bool) (x : Int) : Prop := x < next ∨ S x = true
theorem Taken.not_may {next : Int} {S : Int → Bool} {x : Int} (h : Taken next S x) : mayB next S x = false := by
  rcases h with h | h
  · simp [mayB]; intro h1; omega
  · simp [mayB, h]

/-- Behind a Take: what was taken stays so; the number too, if it was let. -/
theorem take_keeps {w w' : World} {b : Nat} {next : Int} {cnt : Nat} {S : Int → Bool} {y : Int} (h : TakeOwn w w' b next cnt S y) (x : Int) (hx : Taken next S x ∨ (x = y ∧ mayB next S y = true)) :
    ∃ next' cnt' S', OwnW w w' b next' cnt' S' ∧ next ≤ next' ∧ next' ≤ next + 64 ∧ cnt' ≤ cnt + 1 ∧ Taken next' S' x := by
  obtain ⟨next', cnt', S', h1, h2, h3, h4, h5, h6⟩ := h
  refine ⟨next', cnt', S', h1, h2, h3, h4, ?_⟩
  cases hm : mayB next S y with
  | false =>
    obtain ⟨rfl, rfl⟩ := h5 hm
    rcases hx with hx | ⟨_, hx⟩
    · exact hx
    · rw [hm] at hx; cases hx
  | true =>
    obtain ⟨e1, e2, e3⟩ := h6 hm
    have hp : x < next ∨ plus S y x = true := by
      rcases hx with (hx | hx) | ⟨rfl, _⟩
      · exact .inl hx
      · exact .inr (by simp [plus, hx])
      · exact .inr (by simp [plus])
    rcases hp with hp | hp
    · exact .inl (by omega)
    · rcases Int.lt_or_le x next' with hl | hl
      · exact .inl hl
      · exact .inr (by rw [e1]; simp [from_, hp, hl])

def intCells (l : List Int) : List Value := l.map (Value.int .i64)

theorem rd_int {w : World} {l : List Int} {ao : Option Addr} {m c : Nat} (h : Rd w 1 l.length (.slice ao m c) (intCells l)) (i : Nat) (hi : i < l.length) : ∃ g off, ao = some ⟨g, off, none⟩ ∧ w.cell? ⟨g, off + i, none⟩ = some (.int .i64 l[i]) := by
  obtain ⟨_, _, hc⟩ := h.at
  exact hc i _ (by simp [intCells, hi])

set_option maxRecDepth 100000 in
set_option maxHeartbeats 800000 in
theorem windowOnce_walk (v : Value) (l : List Int) (x : Int) (w : World) (hl : Rd w 1 l.length v (intCells l)) (hw : ∀ y ∈ l, -9223372036854775808 ≤ y ∧ y ≤ 9223372036854775807) :
    Calls Try.prog 3 #[v, .int .i64 x] w fun e w' => e = .returned (.bool true) ∧ Kept (fun _ => False) w w' := by
  obtain ⟨ao, cap, rfl, hcap⟩ := hl.shape
  have HL := Lib.hid (fun i hi => rd_int hl i hi)
  have HW := Lib.hid hw
  clear hl hw
  obtain ⟨N, hN⟩ : ∃ N, N = l.length := ⟨_, rfl⟩
  rw [← hN] at hcap ⊢
  have HN := Lib.hid hN
  clear hN
  by_cases c1 : (300 : Int) < N
  · go_enter Try.func3, Try.ntmps3
    go_wp2_with (go_at_call 8; refine (alive_any _).mono ?_; rintro e w1 ⟨rfl, hk1⟩)
    go_ret
    exact ⟨rfl, hk1⟩
  by_cases c2 : x < 0
  · go_enter Try.func3, Try.ntmps3
    go_wp2_with (go_at_call 8; refine (alive_any _).mono ?_; rintro e w1 ⟨rfl, hk1⟩)
    go_ret
    exact ⟨rfl, hk1⟩
  by_cases c3 : 60 < x
  · go_enter Try.func3, Try.ntmps3
    go_wp2_with (go_at_call 8; refine (alive_any _).mono ?_; rintro e w1 ⟨rfl, hk1⟩)
    go_ret
    exact ⟨rfl, hk1⟩
  have d1 : N ≤ 300 := by omega
  have d2 : 0 ≤ x := by omega
  have d3 : x ≤ 60 := by omega
  clear c1 c2 c3
  go_enter Try.func3, Try.ntmps3
  go_wp2_with fail
  refine (alive_any _).mono ?_
  rintro e w1 ⟨rfl, hk1⟩
  have hown := OwnW.new hk1
  obtain ⟨b, hb⟩ : ∃ b, b = w1.heap.size := ⟨_, rfl⟩
  rw [← hb] at hown
  have HB := Lib.hid hb
  go_wp2_with fail
  rw [← hb]
  clear hb hk1
  have hm0 : mayB 0 (fun _ => false) x = true := by simp [mayB]; omega
  refine ((take_own b 0 0 (fun _ => false) x hown (by omega) (by omega) (by omega) (by omega)).mono ?_)
  rintro e w2 ⟨rfl, ht⟩
  rw [hm0]
  obtain ⟨n2, c2, S2, ho2, p1, p2, p3, p4⟩ := take_keeps ht x (.inr ⟨rfl, hm0⟩)
  clear ht hown hm0
  go_wp2_with fail
  go_loopw [6] (fun k wr => ∃ i : Nat, i ≤ N ∧ k = .int .i64 (i : Int) ∧ ∃ next cnt S, OwnW w wr b next cnt S ∧ 0 ≤ next ∧ next ≤ 64 + 128 * i ∧ cnt ≤ 1 + 2 * i ∧ Taken next S x) (fun k _ => N - (intOf k).toNat)
  case atStart => exact ⟨0, by omega, rfl, n2, c2, S2, ho2, by omega, by omega, by omega, p4⟩
  case round =>
    obtain ⟨i, hi, rfl, next, cnt, S, ho, q0, q1, q2, q3⟩ := hrel
    by_cases hlt : i < N
    · have hil : i < l.length := HN.out ▸ hlt
      obtain ⟨g, off, rfl, z0⟩ := HL.out i hil
      have hy := HW.out l[i] (List.getElem_mem hil)
      generalize l[i] = y at *
      have x0 : wr.cell? ⟨g, off + i, none⟩ = some (.int .i64 y) := by
        obtain ⟨mo, _, hk, _⟩ := ho
        exact hk.cell0 z0
      obtain ⟨y0, y1⟩ := hy
      clear z0
      go_wp2_with fail
      refine ((take_own b next cnt S y ho (by omega) (by omega) y0 y1).mono ?_)
      rintro e w3 ⟨rfl, ht⟩
      obtain ⟨n3, c3, S3, ho3, r1, r2, r3, r4⟩ := take_keeps ht x (.inl q3)
      clear ht ho x0 q3
      generalize mayB next S y = bb
      go_wp2_with fail
      have hm3 := r4.not_may
      refine ((take_own b n3 c3 S3 x ho3 (by omega) (by omega) (by omega) (by omega)).mono ?_)
      rintro e w4 ⟨rfl, ht⟩
      obtain ⟨n4, c4, S4, ho4, s1, s2, s3, s4⟩ := take_keeps ht x (.inl r4)
      rw [hm3]
      clear ht ho3 hm3 r4
      have HM := Lib.hid s4.not_may
      go_wp2_with (go_at_call 10; refine (may_own b n4 c4 S4 x false HM.out ho4 (by omega) (by omega)).mono ?_; rintro e w5 ⟨rfl, rfl⟩)
      go_roundw
      case rel => exact ⟨i + 1, by omega, by go_num, n4, c4, S4, ho4, by omega, by omega, by omega, s4⟩
      case measure => simp [intOf]; omega
    · go_wp2_with fail
      go_ret
      obtain ⟨mo, _, hk, _⟩ := ho
      exact ⟨rfl, hk⟩
end Go.Proofs.Ytkcidcfjoaokoaa
