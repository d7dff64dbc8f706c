/-
  Window.Ahead: the numbers that were taken above Next, rising, in a slice of their own.
-/
import Derived.Test.YtkcidcfjoaokoaaWinB
import Derived.Test.YtkcidcfjoaokoaaIter
namespace Go.Proofs.Ytkcidcfjoaokoaa
set_option linter.unusedVariables false
set_option linter.unusedSimpArgs false
set_option linter.unnecessarySimpa false
open Go.RowKit Go.Maps

/-- The numbers of a set within the window, rising. -/
def aheadL (next : Int) (S : Int → Bool) : List Int := ((List.range 64).map fun i : Nat => next + (i : Int)).filter S
theorem aheadL_mem {next : Int} {S : Int → Bool} (hS : ∀ y, S y = true → next < y ∧ y < next + 64) (y : Int) : y ∈ aheadL next S ↔ S y = true := by
  unfold aheadL
  rw [List.mem_filter, List.mem_map]
  constructor
  · rintro ⟨_, h⟩
    exact h
  · intro h
    have := hS y h
    exact ⟨⟨(y - next).toNat, by rw [List.mem_range]; omega, by omega⟩, h⟩
theorem aheadL_rising (next : Int) (S : Int → Bool) : (aheadL next S).Pairwise (· < ·) := by
  unfold aheadL
  refine List.Pairwise.filter _ ?_
  rw [List.pairwise_map]
  refine List.pairwise_lt_range.imp ?_
  intro a b h
  omega
theorem aheadL_nodup (next : Int) (S : Int → Bool) : (aheadL next S).Nodup := (aheadL_rising next S).imp (fun h => by omega)
theorem aheadL_length (next : Int) (S : Int → Bool) : (aheadL next S).length ≤ 64 := by
  unfold aheadL
  have h := List.length_filter_le S ((List.range 64).map fun i : Nat => next + (i : Int))
  simpa using h
theorem aheadL_lt {next : Int} {S : Int → Bool} (hS : ∀ y, S y = true → next < y ∧ y < next + 64) : (aheadL next S).length < 64 := by
  have h0 : S next = false := by
    cases h : S next with
    | false => rfl
    | true => have := hS next h; omega
  have e : aheadL next S = ((List.range' 1 63).map fun i : Nat => next + (i : Int)).filter S := by
    unfold aheadL
    rw [show (List.range 64) = 0 :: List.range' 1 63 from by decide, List.map_cons, List.filter_cons, if_neg (by simpa using h0)]
  rw [e]
  have h := List.length_filter_le S ((List.range' 1 63).map fun i : Nat => next + (i : Int))
  have : ((List.range' 1 63).map fun i : Nat => next + (i : Int)).length = 63 := by simp
  omega

/-- v: a slice of one's own with these numbers; nothing that was there has turned. -/
def Ints (w w' : World) (v : Value) (l : List Int) : Prop := Sl w' 3 1 l.length v (l.map (Value.int .i64)) ∧ Kept (fun _ => False) w w' ∧ ∀ k, v.ownBlock = some k → w.heap.size ≤ k
theorem Ints.kept {w w1 w2 : World} {v : Value} {l : List Int} (h : Ints w w1 v l) (hk : Kept (fun _ => False) w1 w2) : Ints w w2 v l := ⟨h.1.kept hk (fun _ _ h => h), h.2.1.trans hk (fun _ _ h => h), h.2.2⟩
def AheadSaid (w : World) (l : List Int) (e : Ending) (w' : World) : Prop := ∃ v, e = .returned v ∧ Ints w w' v l

theorem ints_of_owns {w w1 w' : World} {v : Value} {l ss : List Int} (hk : Kept (fun _ => False) w w1) (hp : ss.Perm l) (hl : l.Pairwise (· < ·))
    (h : w'.ownsRow w1.heap.size 3 1 v ss.length ((ss.mergeSort (fun x y => decide (x ≤ y))).map encZ)) (hb : Below w1.heap.size w1 w') : Ints w w' v l := by
  have e : ss.mergeSort (fun x y => decide (x ≤ y)) = l := by
    have h1 : ss.mergeSort leI = l.mergeSort leI := mergeSort_of_perm_i hp
    have h2 : l.mergeSort leI = l := List.mergeSort_of_pairwise (hl.imp (fun h => by simp [leI]; omega))
    exact h1.trans h2
  rw [e, hp.length_eq] at h
  refine ⟨Sl.of_owns h, hk.trans (Kept.of_below hb) (fun _ _ h => h), fun k hk' => ?_⟩
  rcases h.2 with ⟨rfl, _⟩ | ⟨g, cap, cur, rfl, hb', _⟩
  · cases hk'
  · simp [Value.ownBlock] at hk'
    have := hk.size
    omega

set_option maxRecDepth 100000 in
set_option maxHeartbeats 800000 in
theorem ahead_st (b : Nat) (next : Int) (mo : Option Nat) (cnt : Nat) (S : Int → Bool) (w : World) (h : WinSt w b next mo cnt S) (hc : cnt ≤ 1000000000) :
    Calls Try.prog 11 #[.pointer (some ⟨b, 0, none⟩)] w (AheadSaid w (aheadL next S)) := by
  have k1 := cell_at h.1.1 1
  simp at k1
  cases mo with
  | none =>
    have hz : aheadL next S = [] := by
      rw [List.eq_nil_iff_forall_not_mem]
      intro y hy
      rw [aheadL_mem h.2.2] at hy
      rw [h.1.2.2 y] at hy
      cases hy
    rw [hz]
    have fin : ∀ (v : Value) (w1 w' : World) (ss : List Int), Kept (fun _ => False) w w1 → ss = [] → w'.ownsRow w1.heap.size 3 1 v ss.length ((ss.mergeSort (fun x y => decide (x ≤ y))).map encZ) → Below w1.heap.size w1 w' → AheadSaid w [] (.returned v) w' := by
      intro v w1 w' ss hk hs h hb
      exact ⟨v, rfl, ints_of_owns (l := []) hk (by rw [hs]) List.Pairwise.nil h hb⟩
    have FIN := Lib.hid fin
    clear fin
    clear h hz
    go_enter Try.func11, Try.ntmps11
    go_wp2_with fail
    refine (Try.maps_Keys none _).mono ?_
    rintro e w1 ⟨rfl, rfl⟩
    go_wp2_with fail
    refine (Try.sorted_keys_nil _).mono ?_
    rintro e w2 ⟨v, ss, rfl, hs, hrow, _, hb⟩
    have HF := Lib.hid (FIN.out v _ w2 ss ((Kept.refl _ w).alloc _) hs hrow hb)
    clear hs hrow hb
    go_wp2_with fail
    go_ret
    exact HF.out
  | some mb =>
    obtain ⟨D, hown, hsz, htidy, hD⟩ := h.1.2.1
    have hperm : (aheadL next S).Perm (intKeys D) := by
      refine CollectedI.perm (left := fun _ => false) ⟨aheadL_nodup next S, fun x => ?_⟩ hown ikey Try.underlying3 (fun _ => rfl)
      rw [aheadL_mem h.2.2]
      have := hD (.int .i64 x)
      cases hs : S x with
      | false => simp [ofSet, hs] at this; simp [this]
      | true => simp [ofSet, hs] at this; simp [this.1]
    have FIN := Lib.hid (fun (v : Value) (w1 w' : World) (ss : List Int) (hk : Kept (fun _ => False) w w1) (hs : ss.Perm (intKeys D)) h hb => (⟨v, rfl, ints_of_owns (w := w) (w1 := w1) (w' := w') (l := aheadL next S) hk (hs.trans hperm.symm) (aheadL_rising next S) h hb⟩ : AheadSaid w (aheadL next S) (.returned v) w'))
    have SK := Lib.hid (fun (W : World) (hW : W.ownsMap Try.prog 3 asIs mb (size D) D) => Try.sorted_keys mb (size D) D asIs W hW (by rw [hsz]; unfold maxLen; omega) (by rw [hsz]; omega))
    have OWN := Lib.hid (Mp.exact hown)
    clear h hperm hD htidy hown hsz
    go_enter Try.func11, Try.ntmps11
    go_wp2_with fail
    refine (Try.maps_Keys (some mb) _).mono ?_
    rintro e w1 ⟨rfl, rfl⟩
    go_wp2_with fail
    refine (SK.out _ OWN.out).mono ?_
    rintro e w2 ⟨v, ss, rfl, hs, hrow, _, hb⟩
    have HF := Lib.hid (FIN.out v _ w2 ss ((Kept.refl _ w).alloc _) hs hrow hb)
    clear hs hrow hb
    go_wp2_with fail
    go_ret
    exact HF.out

theorem ahead_own {w w1 : World} (b : Nat) (next : Int) (cnt : Nat) (S : Int → Bool) (h : OwnW w w1 b next cnt S) (hc : cnt ≤ 1000000000) :
    Calls Try.prog 11 #[.pointer (some ⟨b, 0, none⟩)] w1 (AheadSaid w1 (aheadL next S)) := by
  obtain ⟨mo, h1, _⟩ := h
  exact ahead_st b next mo cnt S w1 h1 hc
theorem OwnW.kept {w w1 w2 : World} {b : Nat} {next : Int} {cnt : Nat} {S : Int → Bool} (h : OwnW w w1 b next cnt S) (hk : Kept (fun _ => False) w1 w2) : OwnW w w2 b next cnt S := by
  obtain ⟨mo, h1, h2, h3⟩ := h
  exact ⟨mo, h1.kept hk (fun _ _ h => h), h2.trans hk (fun _ _ h => h), h3⟩
theorem OwnW.facts {w w1 : World} {b : Nat} {next : Int} {cnt : Nat} {S : Int → Bool} (h : OwnW w w1 b next cnt S) : Kept (fun _ => False) w w1 ∧ 0 ≤ next ∧ ∀ y, S y = true → next < y ∧ y < next + 64 := by
  obtain ⟨mo, h1, h2, h3⟩ := h
  exact ⟨h2, h1.2⟩
end Go.Proofs.Ytkcidcfjoaokoaa
