/-
  The reference's Users: may a list of users be?
-/
import Derived.Test.YtgfpcjieonniiaaGreatRefUsersC
namespace Go.Proofs.YtgfpcjieonniiaaGreat
set_option linter.unusedVariables false
set_option linter.unusedSimpArgs false
set_option linter.unnecessarySimpa false
open Go.RowKit
set_option maxRecDepth 100000

theorem valid_dup {l : List (ByteArray × ByteArray)} {k i : Nat} (hk : k < i) (hi : i < l.length) (he : (l[k]'(by omega)).1 = (l[i]'hi).1) : validB l = false := by
  have h : ¬ (l.map (·.1)).Nodup := fun hn => by
    have := List.pairwise_iff_getElem.1 hn k i (by simp; omega) (by simpa using hi) hk
    simp only [List.getElem_map] at this
    exact this he
  unfold validB
  rw [decide_eq_false h, Bool.and_false]
theorem valid_bad {l : List (ByteArray × ByteArray)} {i : Nat} (hi : i < l.length) (h : rightB (l[i]'hi).1 (l[i]'hi).2 = false) : validB l = false := by
  have : l.all (fun x => rightB x.1 x.2) = false := by
    rw [List.all_eq_false]
    exact ⟨_, List.getElem_mem hi, by rw [h]; decide⟩
  unfold validB
  rw [this, Bool.and_false, Bool.false_and]
theorem valid_end {l : List (ByteArray × ByteArray)} (h1 : l.all (fun x => rightB x.1 x.2) = true) (h2 : (l.map (·.1)).Nodup) : validB l = decide (l.length ≤ 20) := by
  unfold validB
  rw [h1, decide_eq_true h2, Bool.and_true, Bool.and_true]
/-- The first i users are right, no two of one name. -/
def Good (l : List (ByteArray × ByteArray)) (i : Nat) : Prop := (l.take i).all (fun x => rightB x.1 x.2) = true ∧ ((l.take i).map (·.1)).Nodup
theorem Good.next {l : List (ByteArray × ByteArray)} {i : Nat} (h : Good l i) (hi : i < l.length) (hr : rightB (l[i]'hi).1 (l[i]'hi).2 = true) (hne : ∀ (k : Nat) (hk : k < i), (l[k]'(by omega)).1 ≠ (l[i]'hi).1) : Good l (i + 1) := by
  have e : l.take (i + 1) = l.take i ++ [l[i]'hi] := by rw [List.take_succ_eq_append_getElem hi]
  refine ⟨by rw [e, List.all_append, h.1]; simp [hr], ?_⟩
  rw [e, List.map_append, List.nodup_append]
  refine ⟨h.2, by simp, fun a ha b hb => ?_⟩
  simp at hb
  subst hb
  obtain ⟨x, hx, rfl⟩ := List.mem_map.1 ha
  obtain ⟨k, hk, rfl⟩ := List.mem_iff_getElem.1 hx
  rw [List.length_take] at hk
  rw [List.getElem_take]
  exact hne k (by omega)

set_option maxHeartbeats 4000000 in
theorem refUsers_any (v : Value) (l : List (ByteArray × ByteArray)) (w : World) (hl : Rd w 2 l.length v (l.flatMap userCells)) (hn : l.length ≤ 1000) (hs : ∀ x ∈ l, x.1.size ≤ maxLen ∧ x.2.size ≤ maxLen) :
    Calls Tryz.prog 9 #[v] w fun e w' => e = .returned (.bool (validB l)) ∧ Kept (fun _ => False) w w' := by
  obtain ⟨ao, ca, rfl, hca⟩ := hl.shape
  have HR := Lib.hid (fun (W : World) (hk : Kept (fun _ => False) w W) i hi => rd_user (hl.kept hk (fun _ _ h => h)) rfl i hi)
  have HS := Lib.hid hs
  clear hl hs
  obtain ⟨N, hN⟩ : ∃ N, N = l.length := ⟨_, rfl⟩
  rw [← hN] at hca hn ⊢
  have HN := Lib.hid hN
  clear hN
  go_enter Tryz.func9, Tryz.ntmps9
  go_wp2_with fail
  go_loopg [3] N (fun gk k wr => ∃ i : Nat, i + gk = N ∧ k = .int .i64 (i : Int) ∧ Good l i ∧ Kept (fun _ => False) w wr)
  case atStart => exact ⟨0, by omega, rfl, ⟨rfl, by simp⟩, Kept.refl _ _⟩
  case round =>
    obtain ⟨i, hi, rfl, hg, hk⟩ := hrel
    by_cases hlt : i < N
    · have hil : i < l.length := HN.out ▸ hlt
      obtain ⟨g, off, rfl, x0, x1⟩ := HR.out wr hk i hil
      have hsz := HS.out _ (List.getElem_mem hil)
      have USER := Lib.hid (fun W => refUser_any (l[i]'hil).1 (l[i]'hil).2 W hsz.1 hsz.2)
      have BAD := Lib.hid (fun h => valid_bad hil h)
      have NEXT := Lib.hid (fun h1 h2 => hg.next hil h1 h2)
      have DUP := Lib.hid (fun (k : Nat) (hk : k < i) (he : (l[k]'(by omega)).1 = (l[i]'hil).1) => valid_dup hk hil he)
      have HK := Lib.hid hk
      clear hsz hk hg
      obtain ⟨nm, hnm⟩ : ∃ nm, nm = (l[i]'hil).1 := ⟨_, rfl⟩
      obtain ⟨sc, hsc⟩ : ∃ sc, sc = (l[i]'hil).2 := ⟨_, rfl⟩
      have x0' : wr.cell? ⟨g, off + i * 2, none⟩ = some (.string nm) := by rw [hnm]; exact x0
      have x1' : wr.cell? ⟨g, off + i * 2 + 1, none⟩ = some (.string sc) := by rw [hsc]; exact x1
      rw [← hnm, ← hsc] at USER BAD
      rw [← hnm, ← hsc] at NEXT
      rw [← hnm] at DUP
      clear x0 x1
      have HNM := Lib.hid hnm
      clear hnm hsc
      obtain ⟨r, hr⟩ : ∃ r, r = rightB nm sc := ⟨_, rfl⟩
      rw [← hr] at USER BAD NEXT
      clear hr
      cases r with
      | false =>
        go_wp2_with fail
        refine (USER.out _).mono ?_
        rintro e w1 ⟨rfl, hk1⟩
        have HK1 := Lib.hid hk1
        clear hk1
        go_wp2_with fail
        go_ret
        rw [BAD.out trivial]
        exact ⟨rfl, HK.out.trans HK1.out (fun _ _ h => h)⟩
      | true =>
        go_wp2_with fail
        refine (USER.out _).mono ?_
        rintro e w1 ⟨rfl, hk1⟩
        have HK1 := Lib.hid (HK.out.trans hk1 (fun _ _ h => h))
        have Y0 := Lib.hid (hk1.cell0 x0')
        clear hk1 x0' x1'
        go_wp2_with fail
        go_loopg [4] i (fun gj k wx => ∃ j : Nat, j + gj = i ∧ k = .int .i64 (j : Int) ∧ Kept (fun _ => False) w1 wx ∧ ∀ (t : Nat) (ht : t < j) (hti : t < l.length), (l[t]'hti).1 ≠ nm)
        case atStart => exact ⟨0, by omega, rfl, Kept.refl _ _, fun t ht => by omega⟩
        case round =>
          obtain ⟨j, hj, rfl, hkj, hne⟩ := hrel
          have HNE := Lib.hid hne
          have HKJ := Lib.hid hkj
          clear hne
          by_cases hji : j < i
          · have hjl : j < l.length := by omega
            have y0 := hkj.cell0 Y0.out
            obtain ⟨g', off', hge, z0, z1⟩ := HR.out wr (HK1.out.trans hkj (fun _ _ h => h)) j hjl
            injection hge with hge
            injection hge with e1 e2
            subst e1 e2
            obtain ⟨nj, hnj⟩ : ∃ nj, nj = (l[j]'hjl).1 := ⟨_, rfl⟩
            rw [← hnj] at z0
            have HNJ := Lib.hid hnj
            clear z1 hnj hkj
            by_cases hq : nj = nm
            · have hv := Lib.hid (DUP.out j hji (by rw [← HNJ.out]; exact hq))
              subst hq
              go_wp2_with fail
              go_region
              go_wp2_with fail
              go_ret
              rw [hv.out]
              exact ⟨rfl, (HK1.out.trans HKJ.out (fun _ _ h => h)).drew⟩
            · have hbe : (nj.toList == nm.toList) = false := beq_false_of_ne (fun e => hq (by rw [ByteArray.toList_eq, ByteArray.toList_eq] at e; exact ByteArray.ext (Array.ext' e)))
              have HQ := Lib.hid hq
              clear hq
              go_wp2_with fail
              go_region
              go_wp2_with fail
              go_roundg (gk - 1)
              case measure => omega
              case rel =>
                refine ⟨j + 1, by omega, by go_num, HKJ.out.drew, fun t ht hti => ?_⟩
                by_cases e : t = j
                · subst e
                  rw [← HNJ.out]
                  exact HQ.out
                · exact HNE.out t (by omega) hti
          · obtain rfl : j = i := by omega
            clear hkj
            go_wp2_with fail
            go_roundg (N - j - 1)
            case measure => omega
            case rel => exact ⟨j + 1, by omega, by go_num, NEXT.out trivial (fun k hk => HNE.out k hk _), HK1.out.trans HKJ.out (fun _ _ h => h)⟩
    · obtain rfl : i = N := by omega
      have hv : validB l = decide (i ≤ 20) := by
        rw [HN.out]
        rw [HN.out] at hg
        have h1 := hg.1
        have h2 := hg.2
        rw [List.take_of_length_le (Nat.le_refl _)] at h1 h2
        exact valid_end h1 h2
      have HV := Lib.hid hv
      have HK := Lib.hid hk
      clear hv hg hk
      by_cases b : (i : Int) ≤ 20
      · have hd := Lib.hid (show validB l = true by rw [HV.out, decide_eq_true (by omega)])
        go_wp2_with fail
        go_ret
        rw [hd.out]
        exact ⟨rfl, HK.out⟩
      · have hd := Lib.hid (show validB l = false by rw [HV.out, decide_eq_false (by omega)])
        go_wp2_with fail
        go_ret
        rw [hd.out]
        exact ⟨rfl, HK.out⟩
end Go.Proofs.YtgfpcjieonniiaaGreat
