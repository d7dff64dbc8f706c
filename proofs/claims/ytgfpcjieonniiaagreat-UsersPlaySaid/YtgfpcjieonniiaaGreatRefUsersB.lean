/-
  The reference's users in memory: Fail, Good, IsLocked.
-/
import Derived.Test.YtgfpcjieonniiaaGreatRefUsers
import Derived.Test.YtgfpcjieonniiaaGreatUserB
import Derived.BigRegion
namespace Go.Proofs.YtgfpcjieonniiaaGreat
set_option linter.unusedVariables false
set_option linter.unusedSimpArgs false
set_option linter.unnecessarySimpa false
open Go.RowKit
set_option maxRecDepth 100000

theorem Sl.setAtR {w : World} {E : TypeId} {size n g off cap : Nat} {xs : List Value} (h : Sl w E size n (.slice (some ⟨g, off, none⟩) n cap) xs) (j : Nat) (u : Value) :
    Sl (w.setCell ⟨g, off + j, none⟩ u) E size n (.slice (some ⟨g, off, none⟩) n cap) (xs.set j u) := by
  rcases h.2 with ⟨hv, _⟩ | ⟨g', off', cap', cur, hv, hg, hn, hm, hs, ht⟩
  · cases hv
  · obtain ⟨rfl, rfl, rfl⟩ : g' = g ∧ off' = off ∧ cap' = cap := by
      injection hv with h1 h2 h3
      injection h1 with h1
      injection h1 with h4 h5
      exact ⟨h4.symm, h5.symm, h3.symm⟩
    refine ⟨by rw [List.length_set]; exact h.1, .inr ⟨g', off', cap', _, rfl, setCell_block hg _ _, hn, hm, by simpa using hs, ?_⟩⟩
    rw [Array.toList_setIfInBounds, List.drop_set, if_neg (by omega), Nat.add_sub_cancel_left, List.take_set, ht]
theorem set_same {α : Type} {l : List α} {i : Nat} {x : α} (h : l[i]? = some x) : l.set i x = l := by
  apply List.ext_getElem?
  intro j
  rw [List.getElem?_set]
  split
  · rename_i e
    subst e
    obtain ⟨hi, rfl⟩ := List.getElem?_eq_some_iff.1 h
    simp [hi]
  · rfl
theorem map_set_same {α β : Type} {L : List α} {i : Nat} {x x' : α} (f : α → β) (h : L[i]? = some x) (e : f x' = f x) : (L.set i x').map f = L.map f := by
  rw [List.map_set, e]
  exact set_same (by rw [List.getElem?_map, h]; rfl)
theorem flatMap_set_same {L : List Usr} {i : Nat} {x x' : Usr} (h : L[i]? = some x) (e : refCells x' = refCells x) : (L.set i x').flatMap refCells = L.flatMap refCells := by
  rw [List.flatMap_def, List.flatMap_def, map_set_same refCells h e]

section
variable {w : World} {rb : Nat} {G : Nat → Prop} {vL vF vU vK : Value} {L : List Usr}
/-- The cell of user i in the rows of numbers. -/
theorem row_at {E : TypeId} {v : Value} {xs : List Value} {n i : Nat} {u : Value} (h : Sl w E 1 n v xs) (hu : xs[i]? = some u) : ∃ g off cap, v = .slice (some ⟨g, off, none⟩) n cap ∧ n ≤ cap ∧ w.cell? ⟨g, off + i, none⟩ = some u ∧ w.frozen? ⟨g, off + i, none⟩ = false := by
  rcases h.form with ⟨_, h0, rfl⟩ | ⟨g, off, cap, rfl, hn, _⟩
  · simp at hu
  · exact ⟨g, off, cap, rfl, hn, h.cellG i u hu, h.thawG _⟩
/-- The failures of user i set. -/
theorem RefAt.setF {gF oF cF : Nat} (h : RefAt w rb G vL (.slice (some ⟨gF, oF, none⟩) L.length cF) vU vK L) {i : Nat} {x : Usr} (hx : L[i]? = some x) (f : Int) :
    RefAt (w.setCell ⟨gF, oF + i, none⟩ (.int .i64 f)) rb G vL (.slice (some ⟨gF, oF, none⟩) L.length cF) vU vK (L.set i { x with fails := f }) := by
  obtain ⟨h1, h2, h3, h4⟩ := h.dF gF rfl
  refine ⟨(Below.heap_setCell _ _ _ _ (fun e => h1 e.symm)).trans h.blk, ?_, ?_, ?_, ?_, h.own, h.dF, h.dU, h.dK⟩
  · rw [List.length_set, flatMap_set_same (x' := { x with fails := f }) hx rfl]; exact h.sL.setOther h2 _ _
  · rw [List.length_set, List.map_set]; exact h.sF.setAtR i _
  · rw [List.length_set, map_set_same (x' := { x with fails := f }) _ hx rfl]; exact h.sU.setOther h3 _ _
  · rw [List.length_set, map_set_same (x' := { x with fails := f }) _ hx rfl]; exact h.sK.setOther h4 _ _
theorem RefAt.setU {gU oU cU : Nat} (h : RefAt w rb G vL vF (.slice (some ⟨gU, oU, none⟩) L.length cU) vK L) {i : Nat} {x : Usr} (hx : L[i]? = some x) (f : Int) :
    RefAt (w.setCell ⟨gU, oU + i, none⟩ (.int .i64 f)) rb G vL vF (.slice (some ⟨gU, oU, none⟩) L.length cU) vK (L.set i { x with till := f }) := by
  obtain ⟨h1, h2, h3, h4⟩ := h.dU gU rfl
  refine ⟨(Below.heap_setCell _ _ _ _ (fun e => h1 e.symm)).trans h.blk, ?_, ?_, ?_, ?_, h.own, h.dF, h.dU, h.dK⟩
  · rw [List.length_set, flatMap_set_same (x' := { x with till := f }) hx rfl]; exact h.sL.setOther h2 _ _
  · rw [List.length_set, map_set_same (x' := { x with till := f }) _ hx rfl]; exact h.sF.setOther h3 _ _
  · rw [List.length_set, List.map_set]; exact h.sU.setAtR i _
  · rw [List.length_set, map_set_same (x' := { x with till := f }) _ hx rfl]; exact h.sK.setOther h4 _ _
theorem RefAt.setK {gK oK cK : Nat} (h : RefAt w rb G vL vF vU (.slice (some ⟨gK, oK, none⟩) L.length cK) L) {i : Nat} {x : Usr} (hx : L[i]? = some x) (f : Bool) :
    RefAt (w.setCell ⟨gK, oK + i, none⟩ (.bool f)) rb G vL vF vU (.slice (some ⟨gK, oK, none⟩) L.length cK) (L.set i { x with locked := f }) := by
  obtain ⟨h1, h2, h3, h4⟩ := h.dK gK rfl
  refine ⟨(Below.heap_setCell _ _ _ _ (fun e => h1 e.symm)).trans h.blk, ?_, ?_, ?_, ?_, h.own, h.dF, h.dU, h.dK⟩
  · rw [List.length_set, flatMap_set_same (x' := { x with locked := f }) hx rfl]; exact h.sL.setOther h2 _ _
  · rw [List.length_set, map_set_same (x' := { x with locked := f }) _ hx rfl]; exact h.sF.setOther h3 _ _
  · rw [List.length_set, map_set_same (x' := { x with locked := f }) _ hx rfl]; exact h.sU.setOther h4 _ _
  · rw [List.length_set, List.map_set]; exact h.sK.setAtR i _
end

/-- User i is the first one of that name. -/
structure At (L : List Usr) (nm : ByteArray) (i : Nat) (x : Usr) : Prop where
  here : L[i]? = some x
  name : x.name = nm
  first : ∀ (j : Nat) (hj : j < L.length), j < i → (L[j]).name ≠ nm
theorem ref_at_some {w : World} {rb : Nat} {G : Nat → Prop} {vL vF vU vK : Value} {L : List Usr} {nm : ByteArray} {i : Nat} {x : Usr} (h : RefAt w rb G vL vF vU vK L) (hn : L.length ≤ 1000) (ha : At L nm i x) :
    Calls Tryz.prog 14 #[.pointer (some ⟨rb, 0, none⟩), .string nm] w fun e w' => e = .returned (.int .i64 (i : Int)) ∧ w = w' := by
  obtain ⟨hi, rfl⟩ := List.getElem?_eq_some_iff.1 ha.here
  have := ref_at nm h hn i (by omega) ha.first (fun _ => ha.name)
  rwa [if_pos hi] at this
theorem ref_at_none {w : World} {rb : Nat} {G : Nat → Prop} {vL vF vU vK : Value} {L : List Usr} {nm : ByteArray} (h : RefAt w rb G vL vF vU vK L) (hn : L.length ≤ 1000) (ha : ∀ (j : Nat) (hj : j < L.length), (L[j]).name ≠ nm) :
    Calls Tryz.prog 14 #[.pointer (some ⟨rb, 0, none⟩), .string nm] w fun e w' => e = .returned (.int .i64 (-1)) ∧ w = w' := by
  have := ref_at nm h hn L.length (Nat.le_refl _) (fun j hj _ => ha j hj) (fun hj => by omega)
  rwa [if_neg (by omega)] at this

set_option maxHeartbeats 1600000 in
theorem ref_good_some {w : World} {rb : Nat} {G : Nat → Prop} {vL vF vU vK : Value} {L : List Usr} {nm : ByteArray} {i : Nat} {x : Usr} (h : RefAt w rb G vL vF vU vK L) (hn : L.length ≤ 1000) (ha : At L nm i x) :
    Calls Tryz.prog 18 #[.pointer (some ⟨rb, 0, none⟩), .string nm] w fun e w' => e = .returned (.tuple #[]) ∧ RefAt w' rb G vL vF vU vK (L.set i { x with fails := 0 }) ∧ Kept G w w' := by
  have hi : i < L.length := (List.getElem?_eq_some_iff.1 ha.here).1
  obtain ⟨gF, oF, cF, rfl, hcF, x0, f0⟩ := row_at (i := i) (u := .int .i64 x.fails) h.sF (by rw [List.getElem?_map, ha.here]; rfl)
  have k1 := cell_at h.blk 1
  simp at k1
  have AT := Lib.hid (ref_at_some h hn ha)
  have SET := Lib.hid (h.setF ha.here 0)
  have HG := Lib.hid (show G gF from (h.own gF).2 (.inr (.inr (.inl rfl))))
  clear h ha
  generalize hnn : L.length = n at *
  clear hnn
  go_enter Tryz.func18, Tryz.ntmps18
  go_wp2_with fail
  refine AT.out.mono ?_
  rintro e w1 ⟨rfl, rfl⟩
  go_wp2_with fail
  go_end0
  exact ⟨rfl, SET.out, (Kept.refl G w).setCell (p := ⟨gF, oF + i, none⟩) (fun _ => HG.out) _⟩
theorem ref_good_none {w : World} {rb : Nat} {G : Nat → Prop} {vL vF vU vK : Value} {L : List Usr} {nm : ByteArray} (h : RefAt w rb G vL vF vU vK L) (hn : L.length ≤ 1000) (ha : ∀ (j : Nat) (hj : j < L.length), (L[j]).name ≠ nm) :
    Calls Tryz.prog 18 #[.pointer (some ⟨rb, 0, none⟩), .string nm] w fun e w' => e = .returned (.tuple #[]) ∧ w = w' := by
  have AT := Lib.hid (ref_at_none h hn ha)
  clear h ha
  go_enter Tryz.func18, Tryz.ntmps18
  go_wp2_with fail
  refine AT.out.mono ?_
  rintro e w1 ⟨rfl, rfl⟩
  go_wp2_with fail
  go_end0
  exact ⟨rfl, rfl⟩
theorem ref_fail_none {w : World} {rb : Nat} {G : Nat → Prop} {vL vF vU vK : Value} {L : List Usr} {nm : ByteArray} (now : Int) (h : RefAt w rb G vL vF vU vK L) (hn : L.length ≤ 1000) (ha : ∀ (j : Nat) (hj : j < L.length), (L[j]).name ≠ nm) :
    Calls Tryz.prog 16 #[.pointer (some ⟨rb, 0, none⟩), .string nm, .int .i64 now] w fun e w' => e = .returned (.bool false) ∧ w = w' := by
  have AT := Lib.hid (ref_at_none h hn ha)
  clear h ha
  go_enter Tryz.func16, Tryz.ntmps16
  go_wp2_with fail
  refine AT.out.mono ?_
  rintro e w1 ⟨rfl, rfl⟩
  go_wp2_with fail
  go_ret
  exact ⟨rfl, rfl⟩
theorem ref_locked_none {w : World} {rb : Nat} {G : Nat → Prop} {vL vF vU vK : Value} {L : List Usr} {nm : ByteArray} (now : Int) (h : RefAt w rb G vL vF vU vK L) (hn : L.length ≤ 1000) (ha : ∀ (j : Nat) (hj : j < L.length), (L[j]).name ≠ nm) :
    Calls Tryz.prog 20 #[.pointer (some ⟨rb, 0, none⟩), .string nm, .int .i64 now] w fun e w' => e = .returned (.bool false) ∧ w = w' := by
  have AT := Lib.hid (ref_at_none h hn ha)
  clear h ha
  go_enter Tryz.func20, Tryz.ntmps20
  go_wp2_with fail
  refine AT.out.mono ?_
  rintro e w1 ⟨rfl, rfl⟩
  go_wp2_with fail
  go_ret
  exact ⟨rfl, rfl⟩
set_option maxHeartbeats 1600000 in
theorem ref_locked_some {w : World} {rb : Nat} {G : Nat → Prop} {vL vF vU vK : Value} {L : List Usr} {nm : ByteArray} {i : Nat} {x : Usr} (now : Int) (h : RefAt w rb G vL vF vU vK L) (hn : L.length ≤ 1000) (ha : At L nm i x) :
    Calls Tryz.prog 20 #[.pointer (some ⟨rb, 0, none⟩), .string nm, .int .i64 now] w fun e w' => e = .returned (.bool (x.locked && decide (now ≤ x.till))) ∧ w = w' := by
  have hi : i < L.length := (List.getElem?_eq_some_iff.1 ha.here).1
  obtain ⟨gU, oU, cU, rfl, hcU, x0, _⟩ := row_at (i := i) (u := .int .i64 x.till) h.sU (by rw [List.getElem?_map, ha.here]; rfl)
  obtain ⟨gK, oK, cK, rfl, hcK, y0, _⟩ := row_at (i := i) (u := .bool x.locked) h.sK (by rw [List.getElem?_map, ha.here]; rfl)
  have k2 := cell_at h.blk 2
  have k3 := cell_at h.blk 3
  simp at k2 k3
  have AT := Lib.hid (ref_at_some h hn ha)
  clear h ha
  generalize hnn : L.length = n at *
  clear hnn
  cases hl : x.locked
  all_goals
    rw [hl] at y0
    go_enter Tryz.func20, Tryz.ntmps20
    go_wp2_with fail
    refine AT.out.mono ?_
    rintro e w1 ⟨rfl, rfl⟩
    go_wp2_with fail
    go_ret
    exact ⟨by simp, rfl⟩

section
variable {w : World} {rb n : Nat} {G : Nat → Prop} {vL vF vU vK : Value} {L : List Usr}
theorem RefAt.setFn {gF oF cF : Nat} (hn : n = L.length) (h : RefAt w rb G vL (.slice (some ⟨gF, oF, none⟩) n cF) vU vK L) {i : Nat} {x : Usr} (hx : L[i]? = some x) (f : Int) :
    RefAt (w.setCell ⟨gF, oF + i, none⟩ (.int .i64 f)) rb G vL (.slice (some ⟨gF, oF, none⟩) n cF) vU vK (L.set i { x with fails := f }) := by subst hn; exact h.setF hx f
theorem RefAt.setUn {gU oU cU : Nat} (hn : n = L.length) (h : RefAt w rb G vL vF (.slice (some ⟨gU, oU, none⟩) n cU) vK L) {i : Nat} {x : Usr} (hx : L[i]? = some x) (f : Int) :
    RefAt (w.setCell ⟨gU, oU + i, none⟩ (.int .i64 f)) rb G vL vF (.slice (some ⟨gU, oU, none⟩) n cU) vK (L.set i { x with till := f }) := by subst hn; exact h.setU hx f
theorem RefAt.setKn {gK oK cK : Nat} (hn : n = L.length) (h : RefAt w rb G vL vF vU (.slice (some ⟨gK, oK, none⟩) n cK) L) {i : Nat} {x : Usr} (hx : L[i]? = some x) (f : Bool) :
    RefAt (w.setCell ⟨gK, oK + i, none⟩ (.bool f)) rb G vL vF vU (.slice (some ⟨gK, oK, none⟩) n cK) (L.set i { x with locked := f }) := by subst hn; exact h.setK hx f
theorem set_at {i : Nat} {x y : Usr} (hx : L[i]? = some x) : (L.set i y)[i]? = some y := by
  have hi := (List.getElem?_eq_some_iff.1 hx).1
  simp [hi]
end

set_option maxHeartbeats 4000000 in
theorem ref_fail_some {w : World} {rb : Nat} {G : Nat → Prop} {vL vF vU vK : Value} {L : List Usr} {nm : ByteArray} {i : Nat} {x : Usr} (now : Int) (h : RefAt w rb G vL vF vU vK L) (hn : L.length ≤ 1000) (ha : At L nm i x) (f0 : 0 ≤ x.fails) (f1 : x.fails < 3) (n0 : -9223372036854775808 ≤ now) (n1 : now ≤ 9223372036854775807) :
    Calls Tryz.prog 16 #[.pointer (some ⟨rb, 0, none⟩), .string nm, .int .i64 now] w fun e w' => e = .returned (.bool (failed x now).2) ∧ RefAt w' rb G vL vF vU vK (L.set i (failed x now).1) ∧ Kept G w w' := by
  have hi : i < L.length := (List.getElem?_eq_some_iff.1 ha.here).1
  obtain ⟨gF, oF, cF, rfl, hcF, x0, e0⟩ := row_at (i := i) (u := .int .i64 x.fails) h.sF (by rw [List.getElem?_map, ha.here]; rfl)
  obtain ⟨gU, oU, cU, rfl, hcU, y0, e1⟩ := row_at (i := i) (u := .int .i64 x.till) h.sU (by rw [List.getElem?_map, ha.here]; rfl)
  obtain ⟨gK, oK, cK, rfl, hcK, z0, e2⟩ := row_at (i := i) (u := .bool x.locked) h.sK (by rw [List.getElem?_map, ha.here]; rfl)
  have k1 := cell_at h.blk 1
  have k2 := cell_at h.blk 2
  have k3 := cell_at h.blk 3
  simp at k1 k2 k3
  obtain ⟨dF1, _, dF2, dF3⟩ := h.dF gF rfl
  obtain ⟨dU1, _, dU2, dU3⟩ := h.dU gU rfl
  obtain ⟨dK1, _, dK2, dK3⟩ := h.dK gK rfl
  simp [Value.ownBlock] at dF2 dF3 dU2 dU3 dK2 dK3
  have AT := Lib.hid (ref_at_some h hn ha)
  have HGF := Lib.hid (show G gF from (h.own gF).2 (.inr (.inr (.inl rfl))))
  have HGU := Lib.hid (show G gU from (h.own gU).2 (.inr (.inr (.inr (.inl rfl)))))
  have HGK := Lib.hid (show G gK from (h.own gK).2 (.inr (.inr (.inr (.inr rfl)))))
  have HX := Lib.hid ha.here
  have HR := Lib.hid h
  obtain ⟨n, hnn⟩ : ∃ n, n = L.length := ⟨_, rfl⟩
  have HN := Lib.hid hnn
  rw [← hnn] at hi hcF hcU hcK k1 k2 k3 hn HR ⊢
  clear h ha hnn
  by_cases c : x.fails + 1 < 3
  · have hfd : failed x now = ({ x with fails := x.fails + 1 }, false) := by unfold failed; rw [if_pos c]
    rw [hfd]
    have SET := Lib.hid (HR.out.setFn HN.out HX.out (x.fails + 1))
    clear hfd
    go_enter Tryz.func16, Tryz.ntmps16
    go_wp2_with fail
    refine AT.out.mono ?_
    rintro e w1 ⟨rfl, rfl⟩
    go_wp2_with fail
    go_ret
    exact ⟨rfl, SET.out, (Kept.refl G w).setCell (p := ⟨gF, oF + i, none⟩) (fun _ => HGF.out) _⟩
  · have c2 : x.fails = 2 := by omega
    obtain ⟨till, hti⟩ : ∃ till : Int, till = if now ≤ 9223372036854775787 then now + 20 else 9223372036854775807 := ⟨_, rfl⟩
    have hfd : failed x now = ({ x with fails := 0, locked := true, till := till }, true) := by unfold failed; rw [if_neg c, hti]
    rw [hfd]
    clear hfd
    rw [c2] at x0
    by_cases cn : now ≤ 9223372036854775787
    · rw [if_pos cn] at hti
      subst hti
      have s1 := HR.out.setFn HN.out HX.out 3
      have s2 := s1.setFn (by rw [List.length_set]; exact HN.out) (set_at HX.out) 0
      have s3 := s2.setKn (by rw [List.length_set, List.length_set]; exact HN.out) (set_at (set_at HX.out)) true
      have s4 := s3.setUn (by rw [List.length_set, List.length_set, List.length_set]; exact HN.out) (set_at (set_at (set_at HX.out))) (now + 20)
      simp only [List.set_set] at s4
      have FIN := Lib.hid s4
      clear s1 s2 s3 s4 c f0 f1 c2
      go_enter Tryz.func16, Tryz.ntmps16
      go_wp2_with fail
      refine AT.out.mono ?_
      rintro e w1 ⟨rfl, rfl⟩
      go_wp2_with fail
      go_region
      go_wp2_with fail
      go_ret
      exact ⟨rfl, FIN.out.kept (S := fun _ => False) ⟨rfl, rfl, rfl, Nat.le_refl _, fun _ _ _ => rfl⟩ (fun _ _ h => h), ((((Kept.refl G w).setCell (p := ⟨gF, oF + i, none⟩) (fun _ => HGF.out) _).drew.setCell (p := ⟨gF, oF + i, none⟩) (fun _ => HGF.out) _).setCell (p := ⟨gK, oK + i, none⟩) (fun _ => HGK.out) _).setCell (p := ⟨gU, oU + i, none⟩) (fun _ => HGU.out) _⟩
    · rw [if_neg cn] at hti
      subst hti
      have hw : wrap64 (now + 20) = now + 20 - 18446744073709551616 := by unfold wrap64; omega
      have hw2 : IntKind.i64.wrap (now + 20) = now + 20 - 18446744073709551616 := by rw [IntKind.wrap_i64]; omega
      generalize now + 20 - 18446744073709551616 = z at *
      have s1 := HR.out.setFn HN.out HX.out 3
      have s2 := s1.setFn (by rw [List.length_set]; exact HN.out) (set_at HX.out) 0
      have s3 := s2.setKn (by rw [List.length_set, List.length_set]; exact HN.out) (set_at (set_at HX.out)) true
      have s4 := s3.setUn (by rw [List.length_set, List.length_set, List.length_set]; exact HN.out) (set_at (set_at (set_at HX.out))) z
      have s5 := s4.setUn (by rw [List.length_set, List.length_set, List.length_set, List.length_set]; exact HN.out) (set_at (set_at (set_at (set_at HX.out)))) 9223372036854775807
      simp only [List.set_set] at s5
      have FIN := Lib.hid s5
      clear s1 s2 s3 s4 s5 c f0 f1 c2
      go_enter Tryz.func16, Tryz.ntmps16
      go_wp2_with fail
      refine AT.out.mono ?_
      rintro e w1 ⟨rfl, rfl⟩
      go_wp2_with fail
      go_region
      go_wp2_with fail
      go_ret
      exact ⟨rfl, FIN.out.kept (S := fun _ => False) ⟨rfl, rfl, rfl, Nat.le_refl _, fun _ _ _ => rfl⟩ (fun _ _ h => h), (((((Kept.refl G w).setCell (p := ⟨gF, oF + i, none⟩) (fun _ => HGF.out) _).drew.setCell (p := ⟨gF, oF + i, none⟩) (fun _ => HGF.out) _).setCell (p := ⟨gK, oK + i, none⟩) (fun _ => HGK.out) _).setCell (p := ⟨gU, oU + i, none⟩) (fun _ => HGU.out) _).setCell (p := ⟨gU, oU + i, none⟩) (fun _ => HGU.out) _⟩
end Go.Proofs.YtgfpcjieonniiaaGreat
