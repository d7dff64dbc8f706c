/-
  The law WindowBounds.
-/
import Derived.Test.YtkcidcfjoaokoaaWinIv
import Derived.Test.YtkcidcfjoaokoaaWinOnce
import Derived.IntWalk
namespace Go.Proofs.Ytkcidcfjoaokoaa
open Go.RowKit Go.Maps
set_option maxRecDepth 100000

/-- What a list of the numbers ahead is like. -/
def Ahead1 (next : Int) (l : List Int) : Prop := (∀ y ∈ l, next < y ∧ y < next + 64) ∧ l.Pairwise (· < ·) ∧ l.length < 64
theorem ahead1_of {next : Int} {S : Int → Bool} (hS : ∀ y, S y = true → next < y ∧ y < next + 64) : Ahead1 next (aheadL next S) :=
  ⟨fun y hy => hS y ((aheadL_mem hS y).1 hy), aheadL_rising _ _, aheadL_lt hS⟩

/-- Take's bounds alone. -/
def OwnB (w w' : World) (b : Nat) (N : Int) (C : Nat) : Prop := ∃ next cnt S, OwnW w w' b next cnt S ∧ next ≤ N ∧ cnt ≤ C
theorem take_b {w w1 : World} (b : Nat) (next : Int) (cnt : Nat) (S : Int → Bool) (x : Int) (h : OwnW w w1 b next cnt S) (hn : next ≤ 1000000) (hc : cnt ≤ 1000000) (hx0 : -9223372036854775808 ≤ x) (hx1 : x ≤ 9223372036854775807) :
    Calls Try.prog 9 #[.pointer (some ⟨b, 0, none⟩), .int .i64 x] w1 fun e w' => ∃ r, e = .returned (.bool r) ∧ (r = true → 0 ≤ x) ∧ ∃ next' cnt' S', OwnW w w' b next' cnt' S' ∧ next' ≤ next + 64 ∧ cnt' ≤ cnt + 1 := by
  have h0 := h.facts.2.1
  refine (take_own b next cnt S x h (by omega) (by omega) hx0 hx1).mono ?_
  rintro e w' ⟨rfl, n, c, S', ho, g1, g2, g3, g4, g5⟩
  refine ⟨_, rfl, fun hm => ?_, n, c, S', ho, g2, g3⟩
  simp only [mayB, Bool.and_eq_true, decide_eq_true_eq] at hm
  omega

theorem take_still {w w1 : World} (b : Nat) (next : Int) (cnt : Nat) (S : Int → Bool) (x : Int) (h : OwnW w w1 b next cnt S) (hm : mayB next S x = false) (hx0 : -9223372036854775808 ≤ x) (hx1 : x ≤ 9223372036854775807) :
    Calls Try.prog 9 #[.pointer (some ⟨b, 0, none⟩), .int .i64 x] w1 fun e w' => e = .returned (.bool false) ∧ w1 = w' := by
  obtain ⟨mo, h1, _⟩ := h
  exact take_no b next mo cnt S x w1 h1.1 h1.2.1 hx0 hx1 hm

theorem rd_z {w : World} {l : List Int} {ao : Option Addr} {m c : Nat} (h : Rd w 1 l.length (.slice ao m c) (l.map (Value.int .i64))) (i : Nat) (hi : i < l.length) : ∃ g off, ao = some ⟨g, off, none⟩ ∧ w.cell? ⟨g, off + i, none⟩ = some (.int .i64 l[i]) := by
  obtain ⟨_, _, hc⟩ := h.at
  exact hc i _ (by simp [hi])

set_option maxHeartbeats 4000000 in
theorem windowBounds_walk (v : Value) (l : List Int) (w : World) (hl : Rd w 1 l.length v (l.map (Value.int .i64))) (hw : ∀ y ∈ l, -9223372036854775808 ≤ y ∧ y ≤ 9223372036854775807) :
    Calls Try.prog 7 #[v] w fun e w' => e = .returned (.bool true) ∧ Kept (fun _ => False) w w' := by
  obtain ⟨ao, cap, rfl, hcap⟩ := hl.shape
  have HL := Lib.hid (fun (wr : World) (hk : Kept (fun _ => False) w wr) i hi => rd_z (hl.kept hk (fun _ _ h => h)) i hi)
  have HW := Lib.hid hw
  clear hl hw
  obtain ⟨N, hN⟩ : ∃ N, N = l.length := ⟨_, rfl⟩
  rw [← hN] at hcap ⊢
  have HN := Lib.hid hN
  clear hN
  by_cases c1 : (200 : Int) < N
  · go_enter Try.func7, Try.ntmps7
    go_wp2_with (go_at_call 8; refine (alive_any _).mono ?_; rintro e w1 ⟨rfl, hk1⟩)
    go_ret
    exact ⟨rfl, hk1⟩
  have d1 : N ≤ 200 := by omega
  clear c1
  go_enter Try.func7, Try.ntmps7
  go_wp2_with fail
  refine (alive_any _).mono ?_
  rintro e w1 ⟨rfl, hk1⟩
  have hown := Lib.hid (OwnW.new hk1)
  go_wp2_with fail
  go_loopg [21] N (fun gk k wr => ∃ i : Nat, i + gk = N ∧ k = .int .i64 (i : Int) ∧ ∃ next c S, OwnW w wr w1.heap.size next c S ∧ next ≤ 128 * (i : Int) ∧ c ≤ 2 * i)
  case atStart => exact ⟨0, by omega, rfl, 0, 0, _, hown.out, by omega, by omega⟩
  case round =>
    clear hown hk1
    generalize w1.heap.size = b at *
    obtain ⟨i, hi, rfl, next, c, S, hT, hnx, hc⟩ := hrel
    by_cases hlt : i < N
    · obtain ⟨g, off, rfl, x0⟩ := HL.out wr hT.facts.1 i (HN.out ▸ hlt)
      have hb := HW.out _ (List.getElem_mem (HN.out ▸ hlt : i < l.length))
      generalize hkey : l[i]'(HN.out ▸ hlt) = x at *
      have HT := Lib.hid hT
      obtain ⟨hx0, hx1⟩ := hb
      clear hT hkey
      go_wp2_with fail
      refine (take_b b next c S x HT.out (by omega) (by omega) hx0 hx1).mono ?_
      rintro e w2 ⟨r, rfl, hr, n2, c2, S2, h2, hn2, hc2⟩
      have hn20 := h2.facts.2.1
      have HT2 := Lib.hid h2
      clear h2
      go_wp2_with fail
      refine (ahead_own b n2 c2 S2 HT2.out (by omega)).mono ?_
      rintro e w3 ⟨v3, rfl, h3⟩
      have HT3 := Lib.hid (HT2.out.kept h3.2.1)
      have ha1 := ahead1_of HT2.out.facts.2.2
      generalize aheadL n2 S2 = al at *
      obtain ⟨ao3, ca3, rfl, hc3⟩ := (Rd.of_sl h3.1).shape
      have hal := ha1.2.2
      have HA1 := Lib.hid ha1
      have HS3 := Lib.hid h3
      clear h3 ha1
      obtain ⟨m, hm⟩ : ∃ m, m = al.length := ⟨_, rfl⟩
      rw [← hm] at hc3 hal ⊢
      have HM := Lib.hid hm
      clear hm
      have hneg : mayB n2 S2 (-1) = false := by simp [mayB]; omega
      have HNEG := Lib.hid hneg
      clear hneg
      have hm64 : ¬ (64 : Int) ≤ m := by omega
      cases r
      case' true => have hr1 : ¬ x < 0 := by have := hr rfl; omega
      all_goals
        clear hr
        go_wp2_with fail
        refine (take_still b n2 c2 S2 (-1) HT3.out HNEG.out (by omega) (by omega)).mono ?_
        rintro e w4 ⟨rfl, rfl⟩
        go_wp2_with fail
        go_loopw [8] (fun k wr => ∃ j : Nat, j ≤ m ∧ k = .int .i64 (j : Int) ∧ ∃ q, wr = w3.drewN q) (fun k _ => m - (intOf k).toNat)
        case atStart => exact ⟨0, by omega, rfl, 0, rfl⟩
        case round =>
          obtain ⟨j, hj, rfl, hwr⟩ := hrel
          have hcw : ∀ p, wr.cell? p = w3.cell? p := by obtain ⟨q, rfl⟩ := hwr; exact fun _ => rfl
          have HWR := Lib.hid hwr
          clear hwr
          by_cases hjm : j < m
          · obtain ⟨g3, off3, rfl, y0⟩ := rd_z (Rd.of_sl HS3.out.1) j (HM.out ▸ hjm)
            have hy := HA1.out.1 _ (List.getElem_mem (HM.out ▸ hjm : j < al.length))
            rw [← hcw] at y0
            have hOq : ∀ q', OwnW w (wr.drewN q') b n2 c2 S2 := by obtain ⟨q, rfl⟩ := HWR.out; exact fun q' => HT3.out.kept (((Kept.refl _ w3).drewN q).drewN q')
            have NX := Lib.hid (fun q' => next_own b n2 c2 S2 (hOq q'))
            have hprev : ∀ p, j = p + 1 → ∃ y', wr.cell? ⟨g3, off3 + p, none⟩ = some (.int .i64 y') ∧ y' < al[j]'(HM.out ▸ hjm) ∧ n2 < y' := by
              rintro p rfl
              obtain ⟨g4, off4, e4, y4⟩ := rd_z (Rd.of_sl HS3.out.1) p (by have := HM.out; omega)
              injection e4 with e4
              injection e4 with e5 e6
              subst e5 e6
              rw [← hcw] at y4
              refine ⟨_, y4, ?_, (HA1.out.1 _ (List.getElem_mem (by have := HM.out; omega : p < al.length))).1⟩
              exact List.pairwise_iff_getElem.1 HA1.out.2.1 p (p + 1) _ _ (by omega)
            generalize al[j]'(HM.out ▸ hjm) = y at *
            have e1 : decide (y ≤ n2) = false := by simp; omega
            have e2 : decide (n2 + 64 ≤ y) = false := by simp; omega
            have w1 : IntKind.i64.wrap (n2 + 64) = n2 + 64 := IntWalk.i64_in _ (by omega)
            clear hOq hy hcw
            rcases j with _ | p
            · clear hprev
              simp only [Nat.add_zero] at y0
              have hjm0 : (0 : Int) < m := by omega
              go_wp2_with fail
              go_quiet ((go_at_call 13; exact Calls.quiet_of_same ((NX.out _).mono fun _ _ h => ⟨h.1, h.2.symm⟩)))
              clear w1 e1 e2
              go_wp2_with fail
              go_roundw
              case rel => exact ⟨1, by omega, by go_num, by obtain ⟨q, rfl⟩ := HWR.out; exact ⟨q + nq, by simp [World.drewN, Nat.add_assoc]⟩⟩
              case measure => simp [intOf]; omega
            · obtain ⟨y', y1, hy1, hy2⟩ := hprev p rfl
              clear hprev
              have e3 : decide (y ≤ y') = false := by simp; omega
              have w2 : IntKind.i64.wrap (((p + 1 : Nat) : Int) - 1) = (p : Int) := by rw [IntWalk.i64_in _ (by omega)]; omega
              have w3' : wrap64 (((p + 1 : Nat) : Int) - 1) = (p : Int) := by unfold wrap64; omega
              go_wp2_with fail
              go_quiet ((go_at_call 13; exact Calls.quiet_of_same ((NX.out _).mono fun _ _ h => ⟨h.1, h.2.symm⟩)))
              clear w1 e1 e2 e3 w2 w3'
              go_wp2_with fail
              go_roundw
              case rel => exact ⟨p + 1 + 1, by omega, by go_num, by obtain ⟨q, rfl⟩ := HWR.out; exact ⟨q + nq, by simp [World.drewN, Nat.add_assoc]⟩⟩
              case measure => simp [intOf]; omega
          · clear hcw
            go_wp2_with fail
            go_roundg (N - i - 1)
            case measure => omega
            case rel =>
              obtain ⟨q, rfl⟩ := HWR.out
              exact ⟨i + 1, by omega, by go_num, n2, c2, S2, HT3.out.kept ((Kept.refl _ w3).drewN q), by omega, by omega⟩
    · go_wp2_with fail
      go_ret
      exact ⟨rfl, hT.facts.1⟩
end Go.Proofs.Ytkcidcfjoaokoaa
