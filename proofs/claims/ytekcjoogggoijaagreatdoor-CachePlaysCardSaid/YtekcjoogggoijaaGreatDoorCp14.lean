/-
  SameTexts of two lists that are alike: true.
-/
import Derived.Test.YtekcjoogggoijaaGreatDoorCp13
import Derived.Test.YtekcjoogggoijaaGreatDoorProg
import Derived.Test.YtekcjoogggoijaaGreatDoorCp01
import Derived.BigRegion
import Derived.Deep.LoopGhost
set_option linter.unusedVariables false
set_option linter.unusedSimpArgs false
set_option linter.unnecessarySimpa false
namespace Go.Proofs.YtekcjoogggoijaaGreatDoor
open Go.RowKit
set_option maxRecDepth 100000

/-- A cache, and an item's box beside it. -/
def Pb (w0 : World) (c : Nat) (O0 : Nat → Prop) (bud : Int) (K : List ByteArray) (L : List It) (n ver gone : Int) (b : Nat) (x : It) (wr : World) : Prop :=
  ∃ bt S v Ot, CAt wr c bt S v Ot bud K L n ver gone ∧ Grew O0 w0 (cO c v Ot) wr ∧ wr.heap[b]? = some (itBox x) ∧ ¬ cO c v Ot b

theorem del_put {U : List It} {x : It} : putL (delL U x.key) x = putC U x := by
  unfold putL putC
  have h : hasB (delL U x.key) x.key = false := by
    cases h : hasB (delL U x.key) x.key with
    | false => rfl
    | true =>
      obtain ⟨y, hy, hk⟩ := List.mem_map.1 (hasB_mem.1 h)
      have := (List.mem_filter.1 hy).2
      simp at this
      exact absurd hk this
  rw [h]
  rfl
theorem growS_le {S m : Nat} (hS : S ≤ 200000) (hm : m ≤ 100000) : growS S m ≤ 200000 := by
  unfold growS
  split <;> omega

theorem box_again {W0 w4 : World} {b : Nat} {x : It} (hk : Kept (fun _ => False) W0 w4) (hb : W0.heap[b]? = some (itBox x)) (hlt : b < W0.heap.size) :
    Kept (fun k => k = b) W0 ((w4.setCell ⟨b, 0, none⟩ (.string x.key)).setCell ⟨b, 1, none⟩ (.string x.val)) ∧ ((w4.setCell ⟨b, 0, none⟩ (.string x.key)).setCell ⟨b, 1, none⟩ (.string x.val)).heap[b]? = some (itBox x) := by
  have hb4 := (hk.block b hlt (fun h => h)).trans hb
  refine ⟨kept_at _ (kept_at _ (hk.mono (fun _ _ h => h.elim))), ?_⟩
  rw [setCell_block (setCell_block hb4 _ _)]
  rfl

set_option maxHeartbeats 4000000 in
theorem cput (c : Nat) (O : Nat → Prop) (s : CSt) (x : It) (w : World) (h : CS w c O s) (hu : usedL s.U ≤ 1500000) (hk1 : x.key.size ≤ 100000) (hv1 : x.val.size ≤ 100000) :
    Calls Tryz.prog 81 #[.pointer (some ⟨c, 0, none⟩), .agg #[.string x.key, .string x.val, .int .i64 x.ver, .int .i64 x.til]] w fun e w' => e = .returned (.tuple #[]) ∧ Steps w c O { s with U := putC s.U x } w' := by
  have hlen := usedL_ge s.U
  have hdl : usedL (delL s.U x.key) ≤ usedL s.U := usedL_filter_le _ _
  have hdl2 := usedL_ge (delL s.U x.key)
  have hkb : Kept (fun _ => False) w (w.alloc (itBox x)) := (Kept.refl _ w).alloc _
  have hbox := heap_alloc_new w (itBox x)
  have hbO : ¬ O w.heap.size := fun hh => by have := h.lt hh; omega
  have hbG : ∀ k, isG k → k ≠ w.heap.size := fun k hk e => by have := h.laid.lt hk; omega
  obtain ⟨b, hb0⟩ : ∃ b, b = w.heap.size := ⟨_, rfl⟩
  rw [← hb0] at hbox hbO hbG
  have hbs : w.heap.size ≤ b := by omega
  obtain ⟨W0, hW0⟩ : ∃ W0, W0 = w.alloc (itBox x) := ⟨_, rfl⟩
  rw [← hW0] at hbox hkb
  have hblt := lt_of_block hbox
  have BX := Lib.hid (fun (W : World) (hk : Kept (fun _ => False) W0 W) =>
    (have hb := (hk.block b hblt (fun h => h)).trans hbox
    ⟨by simpa using cell_at hb 0, by simpa using cell_at hb 1, frozen_at hb 0, frozen_at hb 1, lt_of_block hb⟩ : W.cell? ⟨b, 0, none⟩ = some (.string x.key) ∧ W.cell? ⟨b, 1, none⟩ = some (.string x.val) ∧ W.frozen? ⟨b, 0, none⟩ = false ∧ W.frozen? ⟨b, 1, none⟩ = false ∧ b < W.heap.size))
  have HS0 := Lib.hid (h.kept0 hkb)
  have HKB := Lib.hid hkb
  have HBX := Lib.hid hbox
  have HB0 := Lib.hid hb0
  have HW0 := Lib.hid hW0
  obtain ⟨g0, g1, g2, g3, g4⟩ := BX.out W0 (Kept.refl _ _)
  clear h hkb hbox
  go_enter Tryz.func81, Tryz.ntmps81
  go_wp2_with fail
  try rw [← hb0]
  first | rw [← show W0 = w.alloc (.cells #[.string x.key, .string x.val, .int .i64 x.ver, .int .i64 x.til] 44) from hW0] | skip
  clear hb0 hW0
  go_cut [] (fun wr => Kept (fun k => k = b) W0 wr ∧ wr.heap[b]? = some (itBox x))
  case first =>
    go_region_with (go_at_call 106; first
      | (have HKC := HK1.out; refine (strings_clone _ _ (by omega)).mono ?_; rintro e w4 ⟨rfl, hk⟩; have HK2 := Lib.hid (HKC.trans hk (fun _ _ h => h)); obtain ⟨r0, r1, r2, r3, r4⟩ := BX.out w4 HK2.out; clear hk HKC)
      | (refine (strings_clone _ _ (by omega)).mono ?_; rintro e w3 ⟨rfl, hk⟩; have HK1 := Lib.hid (((Kept.refl (fun _ => False) W0).drew).trans hk (fun _ _ h => h)); obtain ⟨p0, p1, p2, p3, p4⟩ := BX.out w3 HK1.out; clear hk))
    all_goals
      go_wp2_with fail
      go_meet
      case rel => exact box_again HK2.out HBX.out hblt
  case rest =>
    obtain ⟨hkw, hbw⟩ := hcut
    have hsz := hkw.size
    have HSR := Lib.hid (HS0.out.kept hkw (fun k hk e => hbO (e ▸ hk)) (fun k hk e => hbG k hk e))
    have HGR := Lib.hid ((Grew.of_kept (O := O) HKB.out).keptT hkw (fun k hk e => by omega))
    clear hkw
    have cb0 := cell_at hbw 0
    have cb1 := cell_at hbw 1
    have cb2 := cell_at hbw 2
    have cb3 := cell_at hbw 3
    simp [itBox] at cb0 cb1 cb2 cb3
    go_wp2_with fail
    refine (cdel c O s x.key _ HSR.out (by omega) (by omega)).mono ?_
    rintro e w5 ⟨rfl, O5, h5, g5⟩
    obtain ⟨hb5, hO5⟩ := g5.other hbw hbO
    have HG5 := Lib.hid (HGR.out.trans g5)
    obtain ⟨bt, S, v, Ot, rfl, hA⟩ := h5
    simp only at hA
    clear g5 hbw cb0 cb1 cb2 cb3
    have b0 := cell_at hb5 0
    have b1 := cell_at hb5 1
    have b2 := cell_at hb5 2
    have b3 := cell_at hb5 3
    simp [itBox] at b0 b1 b2 b3
    have t1 := cell_at hA.blk 1
    simp at t1
    have hS := hA.sS
    have hfit := hA.tab.1
    have TP := Lib.hid (fun (W : World) (hk : Kept (fun _ => False) w5 W) => tb_put x (hA.tab.kept hk (fun _ _ h => h)) (by omega) (by omega))
    have hpl : (putL (delL s.U x.key) x).length ≤ 100000 := by have := putL_length_le (delL s.U x.key) x; omega
    have PST := Lib.hid (fun (W : World) (hkW : Kept (fun _ => False) w5 W) (w6 : World) (O' : Nat → Prop) (ht : Tb w6 bt O' 0 (growS S (putL (delL s.U x.key) x).length) (putL (delL s.U x.key) x)) (hg : Grew Ot W O' w6) =>
      (let h := (hA.kept0 hkW).tabStep ht hg (growS_le hS hpl)
      let ho := h.2.other (b := b) ((hkW.block b (lt_of_block hb5) (fun h => h)).trans hb5) hO5
      ⟨bt, _, v, O', by have := h.1; rw [del_put] at this; exact this, (HG5.out.kept hkW).trans h.2, ho.1, ho.2⟩ : Pb w c O s.bud (keys (delL s.U x.key)) (putC s.U x) (usedL (delL s.U x.key)) s.ver s.gone b x w6))
    clear hA hfit hb5
    go_wp2_with fail
    go_cut [] (Pb w c O s.bud (keys (delL s.U x.key)) (putC s.U x) (usedL (delL s.U x.key)) s.ver s.gone b x)
    case first =>
      go_region_with (go_at_call 107; refine (TP.out _ ((Kept.refl _ w5).drew)).mono ?_; rintro e w6 ⟨rfl, O', ht, hg⟩; have FINQ := Lib.hid (PST.out _ ((Kept.refl _ w5).drew) w6 O' ht hg); clear ht hg)
      all_goals
        go_wp2_with fail
        go_meet
        case rel => exact FINQ.out
    case rest =>
      clear TP PST t1 b0 b1 b2 b3 hpl hS hO5
      obtain ⟨bt, S, v, Ot, hA, hG, hb, hO6⟩ := hcut
      have k3 := cell_at hA.blk 3
      have f3 := frozen_at hA.blk 3
      have q0 := cell_at hb 0
      have q1 := cell_at hb 1
      have q2 := cell_at hb 2
      have q3 := cell_at hb 3
      simp [itBox] at k3 q0 q1 q2 q3
      have lc5 := lt_of_block hA.blk
      have lq5 := lt_of_block hb
      have hcx : costI x ≤ 300000 := by unfold costI; omega
      have hcp := costI_pos x
      have hud : usedL (putC s.U x) = usedL (delL s.U x.key) + costI x := usedL_snoc _ _
      have HUD := Lib.hid hud
      clear hud
      have END := Lib.hid (fun (W : World) (hkW : Kept (fun _ => False) wc W) =>
        (let h := (hA.kept0 hkW).setUsed (usedL (delL s.U x.key) + costI x)
        let ho := h.2.other (b := b) ((hkW.block b lq5 (fun h => h)).trans hb) hO6
        ⟨bt, S, v, Ot, h.1, (hG.kept hkW).trans h.2, ho.1, ho.2⟩ : Pb w c O s.bud (keys (delL s.U x.key)) (putC s.U x) (usedL (delL s.U x.key) + costI x) s.ver s.gone b x (W.setCell ⟨c, 3, none⟩ (.int .i64 (usedL (delL s.U x.key) + costI x)))))
      have K3 := Lib.hid (fun (W : World) (hkW : Kept (fun _ => False) wc W) => (⟨hkW.cell0 k3, frozen_at ((hkW.block c lc5 (fun h => h)).trans hA.blk) 3⟩ : W.cell? ⟨c, 3, none⟩ = some (.int .i64 (usedL (delL s.U x.key))) ∧ W.frozen? ⟨c, 3, none⟩ = false))
      have hwr : IntKind.i64.wrap (usedL (delL s.U x.key) + costI x) = usedL (delL s.U x.key) + costI x := IntWalk.i64_in _ (by omega)
      have hwr2 : wrap64 (usedL (delL s.U x.key) + costI x) = usedL (delL s.U x.key) + costI x := by unfold wrap64; omega
      have hx1 : x.key.size ≤ 1000000000 := by omega
      have hx2 : x.val.size ≤ 1000000000 := by omega
      clear hA hG hb hO6
      go_wp2_with fail
      go_cut [] (Pb w c O s.bud (keys (delL s.U x.key)) (putC s.U x) (usedL (delL s.U x.key) + costI x) s.ver s.gone b x)
      case first =>
        go_region_with (go_at_call 23; refine (cost_any x _ hx1 hx2).mono ?_; rintro e w3 ⟨rfl, hk3⟩; obtain ⟨k3', f3'⟩ := K3.out w3 (((Kept.refl _ wc).drew).trans hk3 (fun _ _ h => h)); have FINQ := Lib.hid (END.out w3 (((Kept.refl _ wc).drew).trans hk3 (fun _ _ h => h))); clear hk3)
        all_goals
          go_wp2_with fail
          go_meet
          case rel => exact FINQ.out
      case rest =>
        clear END K3 hwr hwr2 k3 f3 q0 q1 q2 q3 lc5 lq5
        obtain ⟨i0, hi, hz0, hz1, hz2⟩ := info_parts str_info
        obtain ⟨bt', S', v', Ot', hA, hG, hb, hO6⟩ := hcut
        have k2 := cell_at hA.blk 2
        have q0 := cell_at hb 0
        simp [itBox] at k2 q0
        have lc5 := lt_of_block hA.blk
        have lq5 := lt_of_block hb
        have hKl : (keys (delL s.U x.key)).length ≤ 100000 := by unfold keys; rw [List.length_map]; omega
        have hsl := hA.ord
        have hkk : keys (putC s.U x) = keys (delL s.U x.key) ++ [x.key] := by unfold putC keys; rw [List.map_append]; rfl
        have happ : ∀ (W : World) (hkW : Kept (fun _ => False) wc W) (g off cap : Nat) (w3 : World) (h1 : Sl w3 9 1 ((keys (delL s.U x.key)).length + 1) (.slice (some ⟨g, off, none⟩) ((keys (delL s.U x.key)).length + 1) cap) (strs (keys (delL s.U x.key)) ++ [.string x.key])) (h2 : Kept (fun k => v'.ownBlock = some k) W w3) (h3 : v'.ownBlock = some g ∨ W.heap.size ≤ g),
            w3.cell? ⟨c, 2, none⟩ = some v' ∧ w3.frozen? ⟨c, 2, none⟩ = false ∧ Steps w c O { s with U := putC s.U x } (w3.setCell ⟨c, 2, none⟩ (.slice (some ⟨g, off, none⟩) ((keys (delL s.U x.key)).length + 1) cap)) := by
          intro W hkW g off cap w3 h1 h2 h3
          have hA' := hA.kept0 hkW
          have h := hA'.setOrd (K' := keys (delL s.U x.key) ++ [x.key]) h2 (by rw [List.length_append]; simpa [strs] using h1) (fun k hk => by simp [Value.ownBlock] at hk; subst hk; exact h3)
          have hbc := (h2.block c (lt_of_block hA'.blk) (fun e => (hA'.vt c e).2 rfl)).trans hA'.blk
          refine ⟨by simpa using cell_at hbc 2, frozen_at hbc 2, _, ⟨bt', S', _, Ot', rfl, ?_⟩, (hG.kept hkW).trans h.2⟩
          have h' := h.1
          rw [← hkk, ← HUD.out] at h'
          exact h'
        have APP := Lib.hid happ
        have hone : ∀ u ∈ [Value.string x.key], u.oneCell' = true := by simp [Value.oneCell']
        have bb1 : (keys (delL s.U x.key)).length + 1 ≤ maxLen := by unfold maxLen; omega
        have bb2 : ((keys (delL s.U x.key)).length + 1) * 16 ≤ 140737488355328 := by omega
        obtain ⟨aov, cav, hvv, _⟩ := (Rd.of_sl hsl).shape
        clear hA hG hb hO6 hkk happ
        generalize keys (delL s.U x.key) = ks at *
        subst hvv
        go_wp2_with fail
        go_region_law (refine step_append_sl _ rfl (.tmp 35) (.tmp 38) 49 rfl 9 i0 _ 1 16 Tryz.underlying49 hi hz0 hz1 hz2 rfl (by decide) (.slice aov ks.length cav) ks.length (strs ks) rfl (hsl.drew.alloc _) ⟨wc.heap.size, 0, none⟩ 1 1 [.string x.key] rfl rfl (cells_new _ _ _ _) hone (by omega) bb1 bb2 ?_; intro g off cap w3 h1 h2 h3; obtain ⟨k2', f2', hst⟩ := APP.out _ (((Kept.refl _ wc).drew).alloc _) g off cap w3 h1 h2 h3; have FINQ := Lib.hid hst; clear h1 h2 h3 hst)
        all_goals
          go_wp2_with fail
          go_end0
          exact ⟨rfl, FINQ.out⟩
end Go.Proofs.YtekcjoogggoijaaGreatDoor
namespace Go.Proofs.YtekcjoogggoijaaGreatDoor
open Go.RowKit
set_option maxRecDepth 100000

/-- What a cache's own table does for it. -/
theorem cs_open {w : World} {c : Nat} {O : Nat → Prop} {s : CSt} (h : CS w c O s) : ∃ bt, w.cell? ⟨c, 1, none⟩ = some (.pointer (some ⟨bt, 0, none⟩)) ∧
    (∀ (W : World) (key : ByteArray), Kept (fun _ => False) w W → key.size ≤ 1000000 → Calls Tryz.prog 41 #[.pointer (some ⟨bt, 0, none⟩), .string key] W fun e w' => e = .returned (gotV (look s.U key)) ∧ Steps W c O s w') ∧
    (∀ W : World, Kept (fun _ => False) w W → Calls Tryz.prog 40 #[.pointer (some ⟨bt, 0, none⟩)] W (KeysSaid W s.U)) ∧
    (∀ W : World, Kept (fun _ => False) w W → Calls Tryz.prog 29 #[.pointer (some ⟨bt, 0, none⟩)] W fun e w' => e = .returned (.int .i64 (s.U.length : Nat)) ∧ W = w') := by
  obtain ⟨bt, S, v, Ot, rfl, h1⟩ := h
  have hS := h1.sS
  refine ⟨bt, by simpa using cell_at h1.blk 1, fun W key hk hkey => ?_, fun W hk => tb_keys (h1.tab.kept hk (fun _ _ h => h)) (by omega), fun W hk => tb_len (h1.tab.kept hk (fun _ _ h => h))⟩
  refine (tb_get key (h1.tab.kept hk (fun _ _ h => h)) (by omega) (by omega)).mono ?_
  rintro e w' ⟨rfl, O', ht, hg⟩
  have hst := (h1.kept0 hk).tabStep ht hg hS
  exact ⟨rfl, _, ⟨bt, S, v, O', rfl, hst.1⟩, hst.2⟩
theorem cs_cells {w : World} {c : Nat} {O : Nat → Prop} {s : CSt} (h : CS w c O s) : ∃ v, w.cell? ⟨c, 0, none⟩ = some (.int .i64 s.bud) ∧ w.cell? ⟨c, 2, none⟩ = some v ∧ w.cell? ⟨c, 3, none⟩ = some (.int .i64 (usedL s.U)) ∧ w.cell? ⟨c, 4, none⟩ = some (.int .i64 s.ver) ∧ w.cell? ⟨c, 5, none⟩ = some (.int .i64 s.gone) ∧
    Sl w 9 1 s.U.length v (strs (keys s.U)) ∧ c < w.heap.size ∧ O c := by
  obtain ⟨bt, S, v, Ot, rfl, h1⟩ := h
  have hl : (keys s.U).length = s.U.length := by unfold keys; rw [List.length_map]
  refine ⟨v, by simpa using cell_at h1.blk 0, by simpa using cell_at h1.blk 2, by simpa using cell_at h1.blk 3, by simpa using cell_at h1.blk 4, by simpa using cell_at h1.blk 5, by rw [← hl]; exact h1.ord, lt_of_block h1.blk, .inl rfl⟩

theorem cused (c : Nat) (O : Nat → Prop) (s : CSt) (w : World) (h : CS w c O s) :
    Calls Tryz.prog 19 #[.pointer (some ⟨c, 0, none⟩)] w fun e w' => e = .returned (.int .i64 (usedL s.U)) ∧ w = w' := by
  obtain ⟨v, k0, k2, k3, k4, k5, _⟩ := cs_cells h
  clear h
  go_enter Tryz.func19, Tryz.ntmps19
  go_wp2_with fail
  go_ret
  exact ⟨rfl, rfl⟩
theorem cgone (c : Nat) (O : Nat → Prop) (s : CSt) (w : World) (h : CS w c O s) :
    Calls Tryz.prog 21 #[.pointer (some ⟨c, 0, none⟩)] w fun e w' => e = .returned (.int .i64 s.gone) ∧ w = w' := by
  obtain ⟨v, k0, k2, k3, k4, k5, _⟩ := cs_cells h
  clear h
  go_enter Tryz.func21, Tryz.ntmps21
  go_wp2_with fail
  refine (atomic_load c 5 s.gone _ k5).mono ?_
  rintro e w1 ⟨rfl, rfl⟩
  go_wp2_with fail
  go_ret
  exact ⟨rfl, rfl⟩

theorem clone_strs (v : Value) (n : Nat) (ks : List ByteArray) (w : World) (h : Sl w 9 1 n v (strs ks)) (hn : n = ks.length) (hb : n ≤ 1000000) :
    Calls Tryz.prog 42 #[v] w fun e w' => ∃ v', e = .returned v' ∧ Strs w w' v' ks := by
  subst hn
  rcases h.form with ⟨rfl, h0, h00⟩ | ⟨g, off, cap, rfl, hc, hlt⟩
  · obtain rfl : ks = [] := List.eq_nil_of_length_eq_zero h0
    refine (Tryz.slices_Clone_string_nil 0 0 w).mono ?_
    rintro e w' ⟨rfl, rfl⟩
    exact ⟨_, rfl, Strs.nil (Kept.refl _ _)⟩
  · have hs := h.cell rfl
    refine (Tryz.slices_Clone_string g off ks.length cap ks w (Nat.le_refl _) (by omega) (fun j hj => ?_)).mono ?_
    · have h1 := hs j (.string ks[j]) (by simp [strs, List.getElem?_eq_getElem hj])
      rw [Addr.add_lit] at h1
      rw [h1]
      simp [List.getD, hj]
    · rintro e w' ⟨v', rfl, ho, hne, hb⟩
      rw [List.take_length] at ho
      refine ⟨v', rfl, Sl.of_owns ho, Kept.of_below hb, fun k hk => ?_⟩
      rcases ho.2 with ⟨rfl, _⟩ | ⟨g', cap', cur, rfl, hb', _⟩
      · cases hk
      · simp [Value.ownBlock] at hk
        omega
theorem corder (c : Nat) (O : Nat → Prop) (s : CSt) (w : World) (h : CS w c O s) (hl : s.U.length ≤ 1000000) :
    Calls Tryz.prog 12 #[.pointer (some ⟨c, 0, none⟩)] w fun e w' => ∃ v', e = .returned v' ∧ Strs w w' v' (keys s.U) := by
  obtain ⟨v, k0, k2, k3, k4, k5, hs, _⟩ := cs_cells h
  have hkl : s.U.length = (keys s.U).length := by unfold keys; rw [List.length_map]
  have HC := Lib.hid (clone_strs v s.U.length (keys s.U) w hs hkl hl)
  obtain ⟨ao, ca, rfl, _⟩ := (Rd.of_sl hs).shape
  clear h hs hkl
  go_enter Tryz.func12, Tryz.ntmps12
  go_wp2_with fail
  refine HC.out.mono ?_
  rintro e w1 ⟨v', rfl, h1⟩
  have H1 := Lib.hid h1
  clear h1
  go_wp2_with fail
  go_ret
  exact ⟨_, rfl, H1.out⟩

/-- An empty cache. -/
def newC (budget : Int) : CSt := ⟨min (max budget 0) 1000000, [], 0, 0⟩
theorem cnew (budget : Int) (w : World) (hL : Laid w) (h0 : -9223372036854775808 ≤ budget) (h1 : budget ≤ 9223372036854775807) :
    Calls Tryz.prog 5 #[.int .i64 budget] w fun e w' => ∃ c, e = .returned (.pointer (some ⟨c, 0, none⟩)) ∧ w.heap.size ≤ c ∧ (∃ O, CS w' c O (newC budget) ∧ ∀ k, O k → w.heap.size ≤ k) ∧ Kept (fun _ => False) w w' := by
  have hfin : ∀ (w1 : World) (bt : Nat) (bud : Int), bud = (newC budget).bud → w.heap.size ≤ bt → Tb w1 bt (fun k => k = bt) 0 8 [] → Kept (fun _ => False) w w1 →
      (∃ O, CS (w1.alloc (.cells #[.int .i64 bud, .pointer (some ⟨bt, 0, none⟩), .slice none 0 0, .int .i64 0, .int .i64 0, .int .i64 0] 74)) w1.heap.size O (newC budget) ∧ ∀ k, O k → w.heap.size ≤ k) := by
    intro w1 bt bud hb hbt ht hk
    have hk1 : Kept (fun _ => False) w1 (w1.alloc (.cells #[.int .i64 bud, .pointer (some ⟨bt, 0, none⟩), .slice none 0 0, .int .i64 0, .int .i64 0, .int .i64 0] 74)) := (Kept.refl _ w1).alloc _
    have hlt := ht.lt bt rfl
    have hs := hk.size
    refine ⟨cO w1.heap.size (.slice none 0 0) (fun k => k = bt), ⟨bt, 8, .slice none 0 0, fun k => k = bt, rfl, ⟨?_, ht.kept hk1 (fun _ _ h => h), Sl.nil _ _ _, by omega, (fun k hk => by cases hk), by omega, hL.kept (hk.trans hk1 (fun _ _ h => h)) (fun _ _ h => h), ?_⟩⟩, ?_⟩
    · rw [← hb]
      exact heap_alloc_new w1 _
    · intro k hO hg
      have := hL.lt hg
      rcases hO with rfl | rfl | hO
      · omega
      · omega
      · cases hO
    · intro k hO
      rcases hO with rfl | rfl | hO
      · exact hs
      · exact hbt
      · cases hO
  have FIN := Lib.hid hfin
  clear hfin
  have hnt := Lib.hid (tb_new 0 w (by omega))
  go_enter Tryz.func5, Tryz.ntmps5
  go_wp2_with fail
  all_goals
    refine hnt.out.mono ?_
    rintro e w1 ⟨rfl, ht, hk⟩
    have HF := Lib.hid (fun bud hb => FIN.out w1 _ bud hb (Nat.le_refl _) ht hk)
    have HK := Lib.hid hk
    clear ht hk
    go_wp2_with fail
    go_ret
    refine ⟨_, rfl, HK.out.size, HF.out _ ?_, HK.out.alloc _⟩
    unfold newC
    simp only
    try omega
end Go.Proofs.YtekcjoogggoijaaGreatDoor
namespace Go.Proofs.YtekcjoogggoijaaGreatDoor
open Go.RowKit

theorem rd_str {w : World} {l : List ByteArray} {ao : Option Addr} {m c : Nat} (h : Rd w 1 l.length (.slice ao m c) (l.map Value.string)) (i : Nat) (hi : i < l.length) : ∃ g off, ao = some ⟨g, off, none⟩ ∧ w.cell? ⟨g, off + i, none⟩ = some (.string l[i]) := by
  obtain ⟨_, _, hc⟩ := h.at
  exact hc i _ (by simp [hi])

set_option maxRecDepth 100000 in
set_option maxHeartbeats 800000 in
theorem sameTexts_true (va vb : Value) (l : List ByteArray) (w : World) (ha : Rd w 1 l.length va (l.map Value.string)) (hb : Rd w 1 l.length vb (l.map Value.string)) (hl : l.length ≤ 1000000) :
    Calls Tryz.prog 17 #[va, vb] w fun e w' => e = .returned (.bool true) ∧ ∃ q, w' = w.drewN q := by
  obtain ⟨aoa, ca, rfl, hca⟩ := ha.shape
  obtain ⟨aob, cb, rfl, hcb⟩ := hb.shape
  have HA := Lib.hid (fun i hi => rd_str ha i hi)
  have HB := Lib.hid (fun i hi => rd_str hb i hi)
  clear ha hb
  obtain ⟨n, hn⟩ : ∃ n, n = l.length := ⟨_, rfl⟩
  rw [← hn] at hl hca hcb ⊢
  have HN := Lib.hid hn
  clear hn
  go_enter Tryz.func17, Tryz.ntmps17
  go_wp2_with fail
  go_loopw [5] (fun k wr => ∃ i : Nat, i ≤ n ∧ k = .int .i64 (i : Int) ∧ ∃ q, wr = w.drewN q) (fun k _ => n - (intOf k).toNat)
  case atStart => exact ⟨0, by omega, rfl, 0, rfl⟩
  case round =>
    obtain ⟨i, hi, rfl, q, rfl⟩ := hrel
    by_cases hlt : i < n
    · obtain ⟨g, off, rfl, x0⟩ := HA.out i (HN.out ▸ hlt)
      obtain ⟨g', off', rfl, y0⟩ := HB.out i (HN.out ▸ hlt)
      generalize (l[i]'(HN.out ▸ hlt)) = nt at *
      go_wp2_with fail
      go_region
      go_wp2_with fail
      go_roundw
      case rel => exact ⟨i + 1, by omega, by go_num, q + 1, rfl⟩
      case measure => simp [intOf]; omega
    · go_wp2_with fail
      go_ret
      exact ⟨rfl, q, rfl⟩
end Go.Proofs.YtekcjoogggoijaaGreatDoor
