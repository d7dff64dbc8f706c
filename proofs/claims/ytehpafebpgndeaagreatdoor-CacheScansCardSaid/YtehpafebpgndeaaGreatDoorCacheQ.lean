/-
  Package cache in words of items: what stays true from command to command. Plain laws, no program in sight.
-/
import Derived.Test.YtehpafebpgndeaaGreatDoorCacheP
namespace Go.Proofs.YtehpafebpgndeaaGreatDoor
set_option linter.unusedVariables false
set_option linter.unusedSimpArgs false
set_option linter.unnecessarySimpa false
open Go.RowKit

/-- A cache between two commands; m: at most so many were written. -/
structure GoodC (s : CSt) (m : Int) : Prop where
  b0 : 0 ≤ s.bud
  b1 : s.bud ≤ 1000000
  nd : (keys s.U).Nodup
  used : usedL s.U ≤ s.bud
  keyl : ∀ x ∈ s.U, x.key.size ≤ 60
  vall : ∀ x ∈ s.U, x.val.size ≤ 500
  til : ∀ x ∈ s.U, 0 ≤ x.til ∧ x.til ≤ 2000000000000
  v0 : 0 ≤ s.ver
  v1 : s.ver ≤ m
  g0 : 0 ≤ s.gone
  gl : s.gone + s.U.length ≤ s.ver
theorem GoodC.le {s : CSt} {m n : Int} (h : GoodC s m) (hm : m ≤ n) : GoodC s n := ⟨h.b0, h.b1, h.nd, h.used, h.keyl, h.vall, h.til, h.v0, Int.le_trans h.v1 hm, h.g0, h.gl⟩
/-- Fewer items, in whatever order. -/
theorem GoodC.sub {s : CSt} {m : Int} (h : GoodC s m) {U : List It} (hm : ∀ x ∈ U, x ∈ s.U) (hn : (keys U).Nodup) (hu : usedL U ≤ usedL s.U) (hl : U.length ≤ s.U.length) : GoodC { s with U := U } m :=
  ⟨h.b0, h.b1, hn, Int.le_trans hu h.used, fun x hx => h.keyl x (hm x hx), fun x hx => h.vall x (hm x hx), fun x hx => h.til x (hm x hx), h.v0, h.v1, h.g0, by have := h.gl; simp only; omega⟩
theorem keys_filter_nodup {U : List It} (h : (keys U).Nodup) (p : It → Bool) : (keys (U.filter p)).Nodup :=
  h.sublist ((List.filter_sublist).map It.key)
theorem GoodC.filter {s : CSt} {m : Int} (h : GoodC s m) (p : It → Bool) : GoodC { s with U := s.U.filter p } m :=
  h.sub (fun x hx => (List.mem_filter.1 hx).1) (keys_filter_nodup h.nd p) (usedL_filter_le p _) (List.length_filter_le p _)
theorem putC_nodup {U : List It} (h : (keys U).Nodup) (x : It) : (keys (putC U x)).Nodup := by
  unfold putC
  have e : keys (delL U x.key ++ [x]) = keys (delL U x.key) ++ [x.key] := by unfold keys; rw [List.map_append]; rfl
  rw [e, List.nodup_append]
  refine ⟨keys_filter_nodup h _, by simp, ?_⟩
  intro a ha b hb
  rw [List.mem_singleton.1 hb]
  rw [keys_del] at ha
  simpa using (List.mem_filter.1 ha).2
theorem putC_mem {U : List It} {x y : It} (h : y ∈ putC U x) : y ∈ U ∨ y = x := by
  unfold putC at h
  rcases List.mem_append.1 h with h | h
  · exact .inl (List.mem_filter.1 h).1
  · exact .inr (List.mem_singleton.1 h)
theorem putC_length (U : List It) (x : It) : (putC U x).length ≤ U.length + 1 := by
  unfold putC
  rw [List.length_append, List.length_singleton]
  have := List.length_filter_le (fun y : It => decide (y.key ≠ x.key)) U
  unfold delL
  omega
theorem delL_length {U : List It} (hn : (keys U).Nodup) {k : ByteArray} {x : It} (h : look U k = some x) : (delL U k).length + 1 = U.length := by
  obtain ⟨hm, hk⟩ := (look_mem hn).1 h
  obtain ⟨i, hi, he⟩ := List.getElem_of_mem hm
  rw [del_erase k U i x hn (by rw [List.getElem?_eq_getElem hi, he]) hk, List.length_eraseIdx_of_lt hi]
  omega

theorem GoodC.write {s : CSt} {m : Int} (h : GoodC s m) (x : It) (hk : x.key.size ≤ 60) (hv : x.val.size ≤ 500) (ht : 0 ≤ x.til ∧ x.til ≤ 2000000000000) : GoodC (writeC s x).2 (m + 1) := by
  unfold writeC
  split
  · exact h.le (by omega)
  · simp only
    have hsuf := evict_suffix s.bud (putC s.U ⟨x.key, x.val, s.ver + 1, x.til⟩)
    have hmem : ∀ y ∈ evict s.bud (putC s.U ⟨x.key, x.val, s.ver + 1, x.til⟩), y ∈ s.U ∨ y = ⟨x.key, x.val, s.ver + 1, x.til⟩ := fun y hy => putC_mem (hsuf.subset hy)
    have hpl := putC_length s.U ⟨x.key, x.val, s.ver + 1, x.til⟩
    have hsl := hsuf.length_le
    have hgl := h.gl
    have hv0 := h.v0
    have hv1 := h.v1
    have hg0 := h.g0
    refine ⟨h.b0, h.b1, (putC_nodup h.nd _).sublist (hsuf.sublist.map It.key), evict_used h.b0 _, ?_, ?_, ?_, by simp only; omega, by simp only; omega, by simp only; omega, by simp only; omega⟩
    · intro y hy
      rcases hmem y hy with h1 | rfl
      · exact h.keyl y h1
      · exact hk
    · intro y hy
      rcases hmem y hy with h1 | rfl
      · exact h.vall y h1
      · exact hv
    · intro y hy
      rcases hmem y hy with h1 | rfl
      · exact h.til y h1
      · exact ht
theorem GoodC.again {s : CSt} {m : Int} (h : GoodC s m) {x y : It} (hl : look s.U y.key = some x) (hk : y.key = x.key) (hv : y.val = x.val) (ht : 0 ≤ y.til ∧ y.til ≤ 2000000000000) : GoodC { s with U := putC s.U y } m := by
  have hx := ((look_mem h.nd).1 hl).1
  have hu : usedL (putC s.U y) = usedL s.U := by
    have h1 := usedL_snoc (delL s.U y.key) y
    have h2 := usedL_del_some h.nd hl
    have h3 : costI y = costI x := by unfold costI; rw [hk, hv]
    unfold putC
    omega
  have hlen : (putC s.U y).length = s.U.length := by
    have := delL_length h.nd hl
    unfold putC
    rw [List.length_append, List.length_singleton]
    omega
  refine ⟨h.b0, h.b1, putC_nodup h.nd _, by simp only; rw [hu]; exact h.used, ?_, ?_, ?_, h.v0, h.v1, h.g0, by simp only; rw [hlen]; exact h.gl⟩
  · intro z hz
    rcases putC_mem hz with h1 | rfl
    · exact h.keyl z h1
    · rw [hk]; exact h.keyl x hx
  · intro z hz
    rcases putC_mem hz with h1 | rfl
    · exact h.vall z h1
    · rw [hv]; exact h.vall x hx
  · intro z hz
    rcases putC_mem hz with h1 | rfl
    · exact h.til z h1
    · exact ht
theorem untilC_range {n now : Int} (hn0 : 0 ≤ n) (hn1 : n ≤ 1000000000000) (h0 : 0 ≤ now) (h1 : now ≤ 1000000000000) : 0 ≤ untilC n now ∧ untilC n now ≤ 2000000000000 := by
  unfold untilC
  split <;> omega
theorem nDigits_few : ∀ (k u : Nat), u < 10 ^ (k + 1) → Lib.nDigits u ≤ k + 1
  | 0, u, h => by rw [Lib.nDigits_small (by simpa using h)]; exact Nat.le_refl _
  | k + 1, u, h => by
    by_cases hu : u < 10
    · rw [Lib.nDigits_small hu]; omega
    · rw [Lib.nDigits_big hu]
      have := nDigits_few k (u / 10) (by rw [Nat.pow_succ] at h; omega)
      omega
theorem itoaB_few {n : Int} (h0 : -1000000000000 ≤ n) (h1 : n ≤ 1000000000000) : (itoaB n).size ≤ 500 := by
  show (Lib.itoa n).length ≤ 500
  unfold Lib.itoa
  split
  · rw [List.length_cons, Lib.decDigits_length]
    have := nDigits_few 13 n.natAbs (by omega)
    omega
  · rw [Lib.decDigits_length]
    have := nDigits_few 13 n.toNat (by omega)
    omega

theorem GoodC.does {s : CSt} {m : Int} (h : GoodC s m) (x : Cm) (now : Int) : GoodC (doC s x now).2 (m + 1) := by
  unfold doC
  split
  · exact h.le (by omega)
  · rename_i hc
    have hr : rightC x := Classical.byContradiction fun hn => hc (.inl hn)
    have h0 : 0 ≤ now := by have : ¬ now < 0 := fun hn => hc (.inr (.inl hn)); omega
    have h1 : now ≤ 1000000000000 := by have : ¬ 1000000000000 < now := fun hn => hc (.inr (.inr hn)); omega
    obtain ⟨_, _, hky, hvl, hn0, hn1, _, _⟩ := hr
    have hS := h.filter (fun x => !overB now x)
    have hS' : GoodC { s with U := sweepC now s.U } m := hS
    clear hS hc
    generalize ({ s with U := sweepC now s.U } : CSt) = t at hS'
    have hle := hS'.le (show m ≤ m + 1 by omega)
    unfold didC
    split
    · rename_i hop
      have hk : x.key.size ≤ 60 := by
        unfold keyOk at hky
        rw [if_neg (by omega), if_neg (by omega)] at hky
        exact hky.2
      unfold setC
      split
      · exact hle
      · split
        · exact hle
        · split
          · exact hle
          · split
            · exact hle
            · exact hS'.write _ hk hvl (untilC_range (by omega) hn1 h0 h1)
    · split
      · unfold scanC
        split <;> exact hle
      · split
        · exact (hS'.sub (U := []) (fun x hx => by cases hx) (by simp [keys]) (by rw [usedL_nil]; have := usedL_ge t.U; omega) (Nat.zero_le _)).le (by omega)
        · split
          · exact hle
          · unfold itemC
            split
            · exact hle
            · rename_i hneg
              split
              · exact hle
              · rename_i was hl
                have hwas := (look_mem hS'.nd).1 hl
                split
                · exact (hS'.again (y := was) (by rw [hwas.2]; exact hl) rfl rfl (hS'.til was hwas.1)).le (by omega)
                · split
                  · exact hle
                  · split
                    · exact (hS'.filter _).le (by omega)
                    · split
                      · rename_i h9
                        exact (hS'.again (x := was) (y := ⟨was.key, was.val, was.ver, untilC x.num now⟩) (by simp only; rw [hwas.2]; exact hl) rfl rfl (untilC_range (by omega) hn1 h0 h1)).le (by omega)
                      · split
                        · unfold incrC
                          split
                          · split
                            · exact hle
                            · rename_i hsum
                              exact hS'.write _ (hS'.keyl was hwas.1) (itoaB_few (by omega) (by omega)) (hS'.til was hwas.1)
                          · exact hle
                        · unfold behindC
                          split
                          · exact hle
                          · rename_i hsz
                            exact hS'.write _ (hS'.keyl was hwas.1) (by simp only; rw [ByteArray.size_append]; omega) (hS'.til was hwas.1)
end Go.Proofs.YtehpafebpgndeaaGreatDoor
