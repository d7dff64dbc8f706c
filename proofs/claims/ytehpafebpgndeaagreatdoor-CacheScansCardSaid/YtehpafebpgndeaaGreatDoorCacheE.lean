/-
  Package cache's walks, the fourth part: New, Used, Gone, Order, Items.
-/
import Derived.Test.YtehpafebpgndeaaGreatDoorCacheD
namespace Go.Proofs.YtehpafebpgndeaaGreatDoor
set_option linter.unusedVariables false
set_option linter.unusedSimpArgs false
set_option linter.unnecessarySimpa false
open Go.RowKit
set_option maxRecDepth 100000

/-- What a cache's own table does for it. -/
theorem cs_open {w : World} {c : Nat} {O : Nat → Prop} {s : CSt} (h : CS w c O s) : ∃ bt, w.cell? ⟨c, 1, none⟩ = some (.pointer (some ⟨bt, 0, none⟩)) ∧
    (∀ (W : World) (key : ByteArray), Kept (fun _ => False) w W → key.size ≤ 1000000 → Calls Tryz.prog 56 #[.pointer (some ⟨bt, 0, none⟩), .string key] W fun e w' => e = .returned (gotV (look s.U key)) ∧ Steps W c O s w') ∧
    (∀ W : World, Kept (fun _ => False) w W → Calls Tryz.prog 55 #[.pointer (some ⟨bt, 0, none⟩)] W (KeysSaid W s.U)) ∧
    (∀ W : World, Kept (fun _ => False) w W → Calls Tryz.prog 53 #[.pointer (some ⟨bt, 0, none⟩)] W fun e w' => e = .returned (.int .i64 (s.U.length : Nat)) ∧ W = w') := by
  obtain ⟨bt, S, v, Ot, rfl, h1⟩ := h
  have hS := h1.sS
  refine ⟨bt, by simpa using cell_at h1.blk 1, fun W key hk hkey => ?_, fun W hk => tb_keys (h1.tab.kept hk (fun _ _ h => h)) (by omega), fun W hk => tb_len (h1.tab.kept hk (fun _ _ h => h))⟩
  refine (tb_get key (h1.tab.kept hk (fun _ _ h => h)) (by omega) (by omega)).mono ?_
  rintro e w' ⟨rfl, O', ht, hg⟩
  have hst := (h1.kept0 hk).tabStep ht hg hS
  exact ⟨rfl, _, ⟨bt, S, v, O', rfl, hst.1⟩, hst.2⟩
theorem cs_cells {w : World} {c : Nat} {O : Nat → Prop} {s : CSt} (h : CS w c O s) : ∃ v, w.cell? ⟨c, 0, none⟩ = some (.int .i64 s.bud) ∧ w.cell? ⟨c, 2, none⟩ = some v ∧ w.cell? ⟨c, 3, none⟩ = some (.int .i64 (usedL s.U)) ∧ w.cell? ⟨c, 4, none⟩ = some (.int .i64 s.ver) ∧ w.cell? ⟨c, 5, none⟩ = some (.int .i64 s.gone) ∧
    Sl w 9 1 s.U.length v (strs (keys s.U)) ∧ c < w.heap.size ∧ O c := by
  obtain ⟨bt, S, v, Ot, rfl, h1⟩ := h
  have hl : (keys s.U).length = s.U.length := by unfold keys; rw [List.length_map]
  refine ⟨v, by simpa using cell_at h1.blk 0, by simpa using cell_at h1.blk 2, by simpa using cell_at h1.blk 3, by simpa using cell_at h1.blk 4, by simpa using cell_at h1.blk 5, by rw [← hl]; exact h1.ord, lt_of_block h1.blk, .inl rfl⟩

theorem cused (c : Nat) (O : Nat → Prop) (s : CSt) (w : World) (h : CS w c O s) :
    Calls Tryz.prog 31 #[.pointer (some ⟨c, 0, none⟩)] w fun e w' => e = .returned (.int .i64 (usedL s.U)) ∧ w = w' := by
  obtain ⟨v, k0, k2, k3, k4, k5, _⟩ := cs_cells h
  clear h
  go_enter Tryz.func31, Tryz.ntmps31
  go_wp2_with fail
  go_ret
  exact ⟨rfl, rfl⟩
theorem cgone (c : Nat) (O : Nat → Prop) (s : CSt) (w : World) (h : CS w c O s) :
    Calls Tryz.prog 30 #[.pointer (some ⟨c, 0, none⟩)] w fun e w' => e = .returned (.int .i64 s.gone) ∧ w = w' := by
  obtain ⟨v, k0, k2, k3, k4, k5, _⟩ := cs_cells h
  clear h
  go_enter Tryz.func30, Tryz.ntmps30
  go_wp2_with fail
  refine (atomic_load c 5 s.gone _ k5).mono ?_
  rintro e w1 ⟨rfl, rfl⟩
  go_wp2_with fail
  go_ret
  exact ⟨rfl, rfl⟩

theorem clone_strs (v : Value) (n : Nat) (ks : List ByteArray) (w : World) (h : Sl w 9 1 n v (strs ks)) (hn : n = ks.length) (hb : n ≤ 1000000) :
    Calls Tryz.prog 58 #[v] w fun e w' => ∃ v', e = .returned v' ∧ Strs w w' v' ks := by
  subst hn
  rcases h.form with ⟨rfl, h0, h00⟩ | ⟨g, off, cap, rfl, hc, hlt⟩
  · obtain rfl : ks = [] := List.eq_nil_of_length_eq_zero h0
    refine (Tryz.slices_Clone_string_nil 0 0 w).mono ?_
    rintro e w' ⟨rfl, rfl⟩
    exact ⟨_, rfl, Strs.nil (Kept.refl _ _)⟩
  · have hs := h.cell rfl
    refine (Tryz.slices_Clone_string g off ks.length cap ks w (Nat.le_refl _) (by omega) (fun j hj => ?_)).mono ?_
    · have h1 := hs j (.string ks[j]) (by simp [strs, List.getElem?_eq_getElem hj])
      rw [Addr.add_lit] at h1
      rw [h1]
      simp [List.getD, hj]
    · rintro e w' ⟨v', rfl, ho, hne, hb⟩
      rw [List.take_length] at ho
      refine ⟨v', rfl, Sl.of_owns ho, Kept.of_below hb, fun k hk => ?_⟩
      rcases ho.2 with ⟨rfl, _⟩ | ⟨g', cap', cur, rfl, hb', _⟩
      · cases hk
      · simp [Value.ownBlock] at hk
        omega
theorem corder (c : Nat) (O : Nat → Prop) (s : CSt) (w : World) (h : CS w c O s) (hl : s.U.length ≤ 1000000) :
    Calls Tryz.prog 32 #[.pointer (some ⟨c, 0, none⟩)] w fun e w' => ∃ v', e = .returned v' ∧ Strs w w' v' (keys s.U) := by
  obtain ⟨v, k0, k2, k3, k4, k5, hs, _⟩ := cs_cells h
  have hkl : s.U.length = (keys s.U).length := by unfold keys; rw [List.length_map]
  have HC := Lib.hid (clone_strs v s.U.length (keys s.U) w hs hkl hl)
  obtain ⟨ao, ca, rfl, _⟩ := (Rd.of_sl hs).shape
  clear h hs hkl
  go_enter Tryz.func32, Tryz.ntmps32
  go_wp2_with fail
  refine HC.out.mono ?_
  rintro e w1 ⟨v', rfl, h1⟩
  have H1 := Lib.hid h1
  clear h1
  go_wp2_with fail
  go_ret
  exact ⟨_, rfl, H1.out⟩

/-- An empty cache. -/
def newC (budget : Int) : CSt := ⟨min (max budget 0) 1000000, [], 0, 0⟩
theorem cnew (budget : Int) (w : World) (hL : Laid w) (h0 : -9223372036854775808 ≤ budget) (h1 : budget ≤ 9223372036854775807) :
    Calls Tryz.prog 26 #[.int .i64 budget] w fun e w' => ∃ c, e = .returned (.pointer (some ⟨c, 0, none⟩)) ∧ w.heap.size ≤ c ∧ (∃ O, CS w' c O (newC budget) ∧ ∀ k, O k → w.heap.size ≤ k) ∧ Kept (fun _ => False) w w' := by
  have hfin : ∀ (w1 : World) (bt : Nat) (bud : Int), bud = (newC budget).bud → w.heap.size ≤ bt → Tb w1 bt (fun k => k = bt) 0 8 [] → Kept (fun _ => False) w w1 →
      (∃ O, CS (w1.alloc (.cells #[.int .i64 bud, .pointer (some ⟨bt, 0, none⟩), .slice none 0 0, .int .i64 0, .int .i64 0, .int .i64 0] 104)) w1.heap.size O (newC budget) ∧ ∀ k, O k → w.heap.size ≤ k) := by
    intro w1 bt bud hb hbt ht hk
    have hk1 : Kept (fun _ => False) w1 (w1.alloc (.cells #[.int .i64 bud, .pointer (some ⟨bt, 0, none⟩), .slice none 0 0, .int .i64 0, .int .i64 0, .int .i64 0] 104)) := (Kept.refl _ w1).alloc _
    have hlt := ht.lt bt rfl
    have hs := hk.size
    refine ⟨cO w1.heap.size (.slice none 0 0) (fun k => k = bt), ⟨bt, 8, .slice none 0 0, fun k => k = bt, rfl, ⟨?_, ht.kept hk1 (fun _ _ h => h), Sl.nil _ _ _, by omega, (fun k hk => by cases hk), by omega, hL.kept (hk.trans hk1 (fun _ _ h => h)) (fun _ _ h => h), ?_⟩⟩, ?_⟩
    · rw [← hb]
      exact heap_alloc_new w1 _
    · intro k hO hg
      have := hL.lt hg
      rcases hO with rfl | rfl | hO
      · omega
      · omega
      · cases hO
    · intro k hO
      rcases hO with rfl | rfl | hO
      · exact hs
      · exact hbt
      · cases hO
  have FIN := Lib.hid hfin
  clear hfin
  have hnt := Lib.hid (tb_new 0 w (by omega))
  go_enter Tryz.func26, Tryz.ntmps26
  go_wp2_with fail
  all_goals
    refine hnt.out.mono ?_
    rintro e w1 ⟨rfl, ht, hk⟩
    have HF := Lib.hid (fun bud hb => FIN.out w1 _ bud hb (Nat.le_refl _) ht hk)
    have HK := Lib.hid hk
    clear ht hk
    go_wp2_with fail
    go_ret
    refine ⟨_, rfl, HK.out.size, HF.out _ ?_, HK.out.alloc _⟩
    unfold newC
    simp only
    try omega
end Go.Proofs.YtehpafebpgndeaaGreatDoor
