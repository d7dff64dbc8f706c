/-
  The walks of package ring: New, Add, Last, Total, Len.
-/
import Derived.Test.YthchacmkeppjcaaProg
import Derived.Test.YthchacmkeppjcaaLib
import Derived.Test.YthchacmkeppjcaaAtom
import Derived.BigRegion
import Derived.Deep.RegionLaw
import Derived.Deep.DeepCutAuto
import Derived.WalkSpells
import Derived.WalkLawsBesides
namespace Go.Proofs.Ythchacmkeppjcaa
set_option linter.unusedVariables false
set_option linter.unusedSimpArgs false
set_option linter.unnecessarySimpa false
open Go.RowKit

theorem note_info : (Try.prog.info? 38).map (fun i => (i.zero, i.size, i.bytes)) = some (some (.agg #[.string ByteArray.empty, .int .i64 0, .string ByteArray.empty, .bool false]), 4, 48) := by kernel_rfl

/-- A ring in memory: for most notes; total were added; v holds the n that are kept, their cells xs. -/
def RingAt (w : World) (b : Nat) (most total : Int) (v : Value) (n : Nat) (xs : List Value) : Prop :=
  w.heap[b]? = some (.cells #[.int .i64 most, v, .int .i64 total] 53 (0, 0)) ∧ Sl w 38 4 n v xs ∧ v.ownBlock ≠ some b ∧ 1 ≤ most ∧ most ≤ 50 ∧ 0 ≤ total ∧ (n = 0 → v = .slice none 0 0)

theorem new_any (n : Int) (w : World) (h0 : -9223372036854775808 ≤ n) (h1 : n ≤ 9223372036854775807) :
    Calls Try.prog 8 #[.int .i64 n] w fun e w' => e = .returned (.pointer (some ⟨w.heap.size, 0, none⟩)) ∧
      RingAt w' w.heap.size (min (max n 1) 50) 0 (.slice none 0 0) 0 [] ∧ Kept (fun _ => False) w w' := by
  have fin : ∀ m, m = min (max n 1) 50 → RingAt (w.alloc (.cells #[.int .i64 m, .slice none 0 0, .int .i64 0] 53)) w.heap.size (min (max n 1) 50) 0 (.slice none 0 0) 0 [] ∧ Kept (fun _ => False) w (w.alloc (.cells #[.int .i64 m, .slice none 0 0, .int .i64 0] 53)) := by
    rintro m rfl
    exact ⟨⟨heap_alloc_new w _, Sl.nil _ _ _, by simp [Value.ownBlock], by omega, by omega, by omega, fun _ => rfl⟩, (Kept.refl _ _).alloc _⟩
  have Fin := Lib.hid fin
  clear fin
  go_enter Try.func8, Try.ntmps8
  go_wp2
  all_goals
    go_ret
    exact ⟨rfl, Fin.out _ (by omega)⟩

theorem after_append {W w1 : World} {S : Nat → Prop} {X o : Obj} {b : Nat} (hb : W.heap[b]? = some o) (h : Kept S (W.alloc X).drew w1) (hS : ¬ S b) : w1.heap[b]? = some o ∧ Kept S W w1 :=
  ⟨(h.block b (by simp; have := lt_of_block hb; omega) hS).trans ((Below.heap_alloc W X b (lt_of_block hb)).trans hb), (((Kept.refl S W).alloc X).drew).trans h (fun _ _ h => h)⟩

/-- Behind an Add of a note with the cells cs. -/
def Added (w w' : World) (b : Nat) (most total : Int) (v : Value) (n : Nat) (xs cs : List Value) : Prop :=
  ∃ v', RingAt w' b most (total + 1) v' (n + 1 - (n + 1 - most.toNat)) ((xs ++ cs).drop ((n + 1 - most.toNat) * 4)) ∧ Kept (fun k => k = b ∨ v.ownBlock = some k) w w' ∧ (v'.ownBlock = v.ownBlock ∨ ∃ g, v'.ownBlock = some g ∧ w.heap.size ≤ g)

theorem add_close {w W wc : World} {b : Nat} {most total : Int} {v : Value} {n : Nat} {xs cs : List Value} {g off cap lo : Nat} (hlo : lo = n + 1 - most.toNat) (hm1 : 1 ≤ most) (hm2 : most ≤ 50) (ht : 0 ≤ total) (hk : Kept (fun k => k = b) w W)
    (hb1 : wc.heap[b]? = some (.cells #[.int .i64 most, .slice (some ⟨g, off, none⟩) (n + 1) cap, .int .i64 (total + 1)] 53 (0, 0)))
    (hs1 : Sl wc 38 4 (n + 1) (.slice (some ⟨g, off, none⟩) (n + 1) cap) (xs ++ cs)) (hk1 : Kept (fun k => k = b ∨ v.ownBlock = some k) W wc) (hg1 : v.ownBlock = some g ∨ W.heap.size ≤ g) (hgb : g ≠ b) :
    Added w (wc.setCell ⟨b, 1, none⟩ (.slice (if cap = lo then some ⟨g, off, none⟩ else some ⟨g, off + lo * 4, none⟩) (n + 1 - lo) (cap - lo))).drew b most total v n xs cs := by
  have hnc := hs1.le_cap
  have hne : cap ≠ lo := by omega
  rw [if_neg hne]
  have hc := hs1.cut rfl lo (n + 1) (by omega) (Nat.le_refl _)
  have hx : ((xs ++ cs).drop (lo * 4)).take ((n + 1 - lo) * 4) = (xs ++ cs).drop (lo * 4) := by
    refine List.take_of_length_le ?_
    rw [List.length_drop, hs1.1, Nat.sub_mul]
    omega
  rw [hx] at hc
  subst hlo
  refine ⟨_, ⟨?_, hc.setOther (by simpa [Value.ownBlock] using hgb) _ _, by simpa [Value.ownBlock] using hgb, hm1, hm2, by omega, fun h => by omega⟩, ?_, ?_⟩
  · show (wc.setCell _ _).heap[b]? = _
    rw [setCell_block hb1]
    rfl
  · exact ((hk.mono (fun _ _ h => Or.inl h)).trans hk1 (fun _ _ h => h)).setCell (p := ⟨b, 1, none⟩) (fun _ => .inl rfl) _ |>.drew
  · rcases hg1 with h | h
    · exact .inl (by simpa [Value.ownBlock] using h.symm)
    · exact .inr ⟨g, rfl, Nat.le_trans hk.size h⟩

set_option maxHeartbeats 400000 in
theorem add_any (b : Nat) (most total : Int) (v : Value) (n : Nat) (xs : List Value) (c0 : ByteArray) (c1 : Int) (c2 : ByteArray) (c3 : Bool) (w : World) (hr : RingAt w b most total v n xs) (hn : n ≤ 1000000) (ht : total < 1000000000) :
    Calls Try.prog 9 #[.pointer (some ⟨b, 0, none⟩), .agg #[.string c0, .int .i64 c1, .string c2, .bool c3]] w fun e w' => e = .returned (.tuple #[]) ∧ Added w w' b most total v n xs [.string c0, .int .i64 c1, .string c2, .bool c3] := by
  obtain ⟨i0, hi, hz0, hz1, hz2⟩ := info_parts note_info
  obtain ⟨hb, hsl, hne, hm1, hm2, ht0, _⟩ := hr
  have k0 := cell_at hb 0
  have k1 := cell_at hb 1
  have k2 := cell_at hb 2
  have f1 := frozen_at hb 1
  have f2 := frozen_at hb 2
  have hlt := lt_of_block hb
  simp at k0 k1 k2
  have hw64 : wrap64 (total + 1) = total + 1 := by unfold wrap64; omega
  have K0 := Lib.hid hw64
  clear hw64
  go_enter Try.func9, Try.ntmps9
  go_wp2_with fail
  refine (atomic_add b 2 total 1 (total + 1) _ (by go_simp) (by go_simp) K0.out).mono ?_
  rintro e w1 ⟨rfl, rfl⟩
  go_wp2_with fail
  obtain ⟨W, hW, hbW, hslW, hboxW, hkW⟩ : ∃ W, W = (w.setCell ⟨b, 2, none⟩ (.int .i64 (total + 1))).alloc (.cells #[.string c0, .int .i64 c1, .string c2, .bool c3] 38) ∧
      W.heap[b]? = some (.cells #[.int .i64 most, v, .int .i64 (total + 1)] 53 (0, 0)) ∧ Sl W 38 4 n v xs ∧ W.heap[w.heap.size]? = some (.cells #[.string c0, .int .i64 c1, .string c2, .bool c3] 38 (0, 0)) ∧ Kept (fun k => k = b) w W := by
    refine ⟨_, rfl, ?_, ?_, ?_, ((Kept.refl (fun k => k = b) w).setCell (p := ⟨b, 2, none⟩) (fun _ => rfl) _).alloc _⟩
    · rw [Below.heap_alloc _ _ _ (by simpa [World.setCell] using hlt), setCell_block hb]; rfl
    · exact (hsl.same (fun k hk => Below.heap_setCell _ _ _ _ (fun e => hne (by rw [hk]; exact congrArg some e)))).alloc _
    · have := heap_alloc_new (w.setCell ⟨b, 2, none⟩ (.int .i64 (total + 1))) (.cells #[.string c0, .int .i64 c1, .string c2, .bool c3] 38)
      simpa [World.setCell] using this
  rw [← hW]
  clear hW hb hsl k0 k1 k2 f1 f2 ht
  obtain ⟨ws, hws⟩ : ∃ ws, ws = w.heap.size := ⟨_, rfl⟩
  rw [← hws] at hboxW ⊢
  have HWS := Lib.hid hws
  clear hws
  have hlW := lt_of_block hbW
  have k0 := cell_at hbW 0
  have k1 := cell_at hbW 1
  have f1 := frozen_at hbW 1
  have x0 := cell_at hboxW 0
  have x1 := cell_at hboxW 1
  have x2 := cell_at hboxW 2
  have x3 := cell_at hboxW 3
  simp at k0 k1 x0 x1 x2 x3
  go_cut [] (fun wr => ∃ g off cap, wr.heap[b]? = some (.cells #[.int .i64 most, .slice (some ⟨g, off, none⟩) (n + 1) cap, .int .i64 (total + 1)] 53 (0, 0)) ∧
    Sl wr 38 4 (n + 1) (.slice (some ⟨g, off, none⟩) (n + 1) cap) (xs ++ [.string c0, .int .i64 c1, .string c2, .bool c3]) ∧ Kept (fun k => k = b ∨ v.ownBlock = some k) W wr ∧ (v.ownBlock = some g ∨ W.heap.size ≤ g) ∧ g ≠ b)
  case first =>
    go_region_law (refine step_append_sl _ rfl (.tmp 14) (.tmp 16) 22 rfl 38 i0 _ 4 48 Try.underlying22 hi hz0 hz1 hz2 rfl (by decide) v n xs rfl (hslW.drew.alloc _) ⟨W.heap.size, 0, none⟩ 1 1 [.string c0, .int .i64 c1, .string c2, .bool c3] rfl rfl (cells_new _ _ _ _) (by simp [Value.oneCell']) (by omega) (by unfold maxLen; omega) (by omega) ?_; intro g off cap w1 h1 h2 h3; obtain ⟨hb1, hk1⟩ := after_append hbW h2 hne; have k1' := cell_at hb1 1; have f1' := frozen_at hb1 1; simp at k1'; clear h2)
    all_goals
      go_wp2_with fail
      go_meet
      case rel =>
        have hgb : g ≠ b := by
          rcases h3 with h3 | h3
          · exact fun e => hne (h3.trans (congrArg some e))
          · simp at h3; omega
        exact ⟨g, off, cap, by rw [setCell_block hb1]; rfl, h1.setOther (by simpa [Value.ownBlock] using hgb) _ _, (hk1.mono (fun _ _ h => .inr h)).setCell (p := ⟨b, 1, none⟩) (fun _ => .inl rfl) _, h3.imp id (fun h => by simp at h; omega), hgb⟩
  case rest =>
    obtain ⟨g, off, cap, hb1, hs1, hk1, hg1, hgb⟩ := hcut
    have r0 := cell_at hb1 0
    have r1 := cell_at hb1 1
    have q1 := frozen_at hb1 1
    simp at r0 r1
    have HB := Lib.hid hb1
    have HS := Lib.hid hs1
    clear k0 k1 f1 x0 x1 x2 x3 hboxW hbW hslW hb1 hs1
    go_wp2_with fail
    go_region
    go_end0
    rw [show (if (n : Int) + 1 - most < 0 then 0 else (n : Int) + 1 - most).toNat = n + 1 - most.toNat from by split <;> omega]
    exact ⟨rfl, add_close rfl hm1 hm2 ht0 hkW HB.out HS.out hk1 hg1 hgb⟩

/-- A slice that is the call's own: it holds the cells xs; nothing that was there has turned. -/
def Fresh (w w' : World) (E : TypeId) (size n : Nat) (u : Value) (xs : List Value) : Prop :=
  Sl w' E size n u xs ∧ Kept (fun _ => False) w w' ∧ ((u = .slice none 0 0 ∧ n = 0) ∨ ∃ g off cap, u = .slice (some ⟨g, off, none⟩) n cap ∧ w.heap.size ≤ g)
def FreshRet (w : World) (E : TypeId) (size n : Nat) (xs : List Value) (e : Ending) (w' : World) : Prop := ∃ u, e = .returned u ∧ Fresh w w' E size n u xs

set_option maxHeartbeats 400000 in
theorem clone_notes (v : Value) (n : Nat) (xs : List Value) (w : World) (hs : Sl w 38 4 n v xs) (h1 : ∀ u ∈ xs, u.oneCell' = true) (hn : n ≤ 1000000) (hv : n = 0 → v = .slice none 0 0) :
    Calls Try.prog 17 #[v] w (FreshRet w 38 4 n xs) := by
  obtain ⟨i0, hi, hz0, hz1, hz2⟩ := info_parts note_info
  have hnil := fun w a l c => Lib.run_eql_slice_nil (P := Try.prog) w 22 38 a l c 0 0 Try.underlying22
  rcases hs.form with ⟨rfl, rfl, rfl⟩ | ⟨g, off, cap, rfl, hc, hg⟩
  · go_enter Try.func17, Try.ntmps17
    go_wp2_with fail
    go_ret
    exact ⟨_, rfl, Sl.nil _ _ _, Kept.refl _ _, .inl ⟨rfl, rfl⟩⟩
  · have hn0 : 0 < n := by
      rcases Nat.eq_zero_or_pos n with h | h
      · have := hv h; cases this
      · exact h
    go_enter Try.func17, Try.ntmps17
    have hcells := hs.cell rfl
    have hse := Sl.empty_new w 38 4
    have hlen := hs.1
    go_wp2_with (at_builtin; refine wpList_append_sl _ rfl (.tmp 5) (.tmp 6) 22 rfl 38 i0 _ 4 48 Try.underlying22 hi hz0 hz1 hz2 rfl (by decide) _ 0 [] rfl hse ⟨g, off, none⟩ n cap xs rfl hlen ?c1 h1 hn0 (by unfold maxLen; omega) (by omega) ?_)
    case c1 => intro j u hu; rw [cell_alloc_lt (by unfold Addr.add; split <;> exact hg)]; exact hcells j u hu
    intro g' off' cap' w1 hs1 hk1 hg1
    go_wp2_with fail
    go_ret
    have hg2 : w.heap.size ≤ g' := by
      rcases hg1 with h | h
      · simp [Value.ownBlock] at h; omega
      · first | omega | (simp at h; omega)
    exact ⟨_, rfl, by simpa using hs1, ((Kept.refl (fun _ => False) w).alloc _).trans hk1 (fun i hi h => by simp [Value.ownBlock] at h; omega), .inr ⟨g', off', cap', by first | rfl | simp, hg2⟩⟩

set_option maxHeartbeats 400000 in
theorem last_any (b : Nat) (most total : Int) (v : Value) (n : Nat) (xs : List Value) (w : World) (hr : RingAt w b most total v n xs) (h1 : ∀ u ∈ xs, u.oneCell' = true) (hn : n ≤ 1000000) :
    Calls Try.prog 10 #[.pointer (some ⟨b, 0, none⟩)] w (FreshRet w 38 4 n xs) := by
  obtain ⟨hb, hsl, hne, hm1, hm2, ht0, hv⟩ := hr
  have k1 := cell_at hb 1
  simp at k1
  have HV := Lib.hid hv
  clear hv
  go_enter Try.func10, Try.ntmps10
  go_wp2_with fail
  refine (clone_notes v n xs _ hsl h1 hn HV.out).mono ?_
  rintro e w1 ⟨u, rfl, hu⟩
  go_wp2_with fail
  go_ret
  exact ⟨_, rfl, hu⟩

theorem total_any (b : Nat) (most total : Int) (v : Value) (n : Nat) (xs : List Value) (w : World) (hr : RingAt w b most total v n xs) :
    Calls Try.prog 13 #[.pointer (some ⟨b, 0, none⟩)] w fun e w' => e = .returned (.int .i64 total) ∧ w = w' := by
  obtain ⟨hb, hsl, hne, hm1, hm2, ht0, hv⟩ := hr
  have k2 := cell_at hb 2
  simp at k2
  clear hv
  go_enter Try.func13, Try.ntmps13
  go_wp2_with fail
  refine (atomic_load b 2 total _ k2).mono ?_
  rintro e w1 ⟨rfl, rfl⟩
  go_wp2_with fail
  go_ret
  exact ⟨rfl, rfl⟩

theorem len_any (b : Nat) (most total : Int) (v : Value) (n : Nat) (xs : List Value) (w : World) (hr : RingAt w b most total v n xs) :
    Calls Try.prog 14 #[.pointer (some ⟨b, 0, none⟩)] w fun e w' => e = .returned (.int .i64 n) ∧ w = w' := by
  obtain ⟨hb, hsl, hne, hm1, hm2, ht0, hv⟩ := hr
  have k1 := cell_at hb 1
  simp at k1
  clear hv
  rcases hsl.form with ⟨rfl, rfl, rfl⟩ | ⟨g, off, cap, rfl, hc, hg⟩
  all_goals
    go_enter Try.func14, Try.ntmps14
    go_wp2_with fail
    go_ret
    exact ⟨rfl, rfl⟩
end Go.Proofs.Ythchacmkeppjcaa
