/-
  Package cache's walks, the second part: del.
-/
import Derived.Test.YtekcjoogggoijaaGreatDoorCp12
import Derived.IntWalk
set_option linter.unusedVariables false
set_option linter.unusedSimpArgs false
set_option linter.unnecessarySimpa false
namespace Go.Proofs.YtekcjoogggoijaaGreatDoor
open Go.RowKit
set_option maxRecDepth 100000

theorem CAt.eqs {w : World} {c bt S : Nat} {v : Value} {Ot : Nat → Prop} {bud : Int} {K K' : List ByteArray} {L : List It} {n n' ver gone : Int} (h : CAt w c bt S v Ot bud K L n ver gone) (hK : K = K') (hn : n = n') : CAt w c bt S v Ot bud K' L n' ver gone := by
  subst hK hn
  exact h

/-- An item's box. -/
def itBox (x : It) : Obj := .cells #[.string x.key, .string x.val, .int .i64 x.ver, .int .i64 x.til] 44
def zBox : Obj := .cells #[.string { data := #[] }, .string { data := #[] }, .int .i64 0, .int .i64 0] 44
/-- An item written over a box. -/
def over4 (w : World) (b : Nat) (x : It) : World := (((w.setCell ⟨b, 0, none⟩ (.string x.key)).setCell ⟨b, 1, none⟩ (.string x.val)).setCell ⟨b, 2, none⟩ (.int .i64 x.ver)).setCell ⟨b, 3, none⟩ (.int .i64 x.til)
theorem over4_block {w : World} {b : Nat} (h : w.heap[b]? = some zBox) (x : It) : (over4 w b x).heap[b]? = some (itBox x) := by
  unfold over4
  rw [setCell_block (setCell_block (setCell_block (setCell_block h _ _) _ _) _ _)]
  rfl
theorem over4_kept (w : World) (b : Nat) (x : It) : Kept (fun k => k = b) w (over4 w b x) := kept_at _ (kept_at _ (kept_at _ (kept_at _ (Kept.refl _ w))))

/-- A cache, a key's box and an item's box beside it. -/
def Mid (w0 : World) (c : Nat) (O0 : Nat → Prop) (bt S : Nat) (v : Value) (bud : Int) (K : List ByteArray) (L : List It) (n ver gone : Int) (pl : Nat) (o : Obj) (q : Nat) (x : It) (wr : World) : Prop :=
  ∃ Ot, CAt wr c bt S v Ot bud K L n ver gone ∧ Grew O0 w0 (cO c v Ot) wr ∧ wr.heap[pl]? = some o ∧ ¬ cO c v Ot pl ∧ wr.heap[q]? = some (itBox x) ∧ ¬ cO c v Ot q ∧ w0.heap.size ≤ q ∧ pl ≠ q
section
variable {w0 w2 w3 : World} {c bt S : Nat} {O0 : Nat → Prop} {v : Value} {Ot O' : Nat → Prop} {bud : Int} {K : List ByteArray} {L : List It} {n ver gone : Int} {pl : Nat} {o : Obj}
/-- Behind a Get: the box is laid behind it. -/
theorem mid_a (h : CAt w2 c bt S v Ot bud K L n ver gone) (hG : Grew O0 w0 (cO c v Ot) w2) (hb : w2.heap[pl]? = some o) (hpl : ¬ cO c v Ot pl) (ht : Tb w3 bt O' 0 S L) (hg : Grew Ot w2.drew O' w3) (x : It) :
    Mid w0 c O0 bt S v bud K L n ver gone pl o w3.heap.size x (w3.alloc (itBox x)) := by
  obtain ⟨h1, h2⟩ := (h.kept0 ((Kept.refl _ w2).drew)).tabStep ht hg h.sS
  obtain ⟨b1, b2⟩ := h2.other (b := pl) (o := o) hb hpl
  have hk := (Kept.refl (fun _ => False) w3).alloc (itBox x)
  have hs := h2.1.size
  have hG3 : Grew O0 w0 (cO c v O') w3 := (hG.kept ((Kept.refl _ w2).drew)).trans h2
  refine ⟨O', h1.kept0 hk, hG3.kept hk, ?_, b2, heap_alloc_new _ _, fun hO => by have := h1.lt hO; omega, hG3.1.size, by have := lt_of_block b1; omega⟩
  exact (Below.heap_alloc _ _ _ (lt_of_block b1)).trans b1
/-- The box is laid ahead of it. -/
theorem mid_b (h : CAt w2 c bt S v Ot bud K L n ver gone) (hG : Grew O0 w0 (cO c v Ot) w2) (hb : w2.heap[pl]? = some o) (hpl : ¬ cO c v Ot pl) (ht : Tb w3 bt O' 0 S L) (hg : Grew Ot (w2.alloc zBox).drew O' w3) (x : It) :
    Mid w0 c O0 bt S v bud K L n ver gone pl o w2.heap.size x (over4 w3 w2.heap.size x) := by
  have hka : Kept (fun _ => False) w2 (w2.alloc zBox).drew := ((Kept.refl _ w2).alloc _).drew
  obtain ⟨h1, h2⟩ := (h.kept0 hka).tabStep ht hg h.sS
  have hb' : (w2.alloc zBox).drew.heap[pl]? = some o := (Below.heap_alloc _ _ _ (lt_of_block hb)).trans hb
  obtain ⟨b1, b2⟩ := h2.other hb' hpl
  obtain ⟨e1, e2, e3⟩ := h.boxed zBox hg
  have hk := over4_kept w3 w2.heap.size x
  have hlt := lt_of_block hb
  have hsz := hG.1.size
  refine ⟨O', h1.kept hk e2 e3, ((hG.kept hka).trans h2).keptT hk (fun k hk e => by omega), ?_, b2, over4_block e1 x, fun hO => e2 _ hO rfl, hsz, by omega⟩
  exact (hk.block pl (lt_of_block b1) (by omega)).trans b1
end

set_option maxHeartbeats 4000000 in
theorem cdel (c : Nat) (O : Nat → Prop) (s : CSt) (key : ByteArray) (w : World) (h : CS w c O s) (hu : usedL s.U ≤ 10000000) (hkey : key.size ≤ 1000000) :
    Calls Tryz.prog 77 #[.pointer (some ⟨c, 0, none⟩), .string key] w fun e w' => e = .returned (.tuple #[]) ∧ Steps w c O { s with U := delL s.U key } w' := by
  have hlen : s.U.length ≤ 1000000 := by have := usedL_ge s.U; omega
  have hU0 : 0 ≤ usedL s.U := by have := usedL_ge s.U; omega
  have hmf : ∀ (fn : Fn) (first cap : Array Value) (w : World), (Instr.makeFunc fn first cap).run Tryz.prog w = .ok (.func fn first cap) w := fun _ _ _ _ => rfl
  have hkb : Kept (fun _ => False) w (w.alloc (.cells #[.string key] 9)) := (Kept.refl _ w).alloc _
  have hbox := heap_alloc_new w (.cells #[.string key] 9)
  have hpl : ¬ O w.heap.size := fun hh => by have := h.lt hh; omega
  obtain ⟨bt, S, v, Ot, rfl, hA⟩ := h
  have hA0 := hA.kept0 hkb
  have hp0 : (w.alloc (.cells #[.string key] 9)).cell? ⟨w.heap.size, 0, none⟩ = some (.string key) := by rw [cell_at hbox]; rfl
  have hv0 : v.ownBlock ≠ some w.heap.size := fun e => hpl (.inr (.inr e))
  have hK : keys (delL s.U key) = (keys s.U).filter (fun x => decide (x ≠ key)) := keys_del s.U key
  have hkl : (keys s.U).length ≤ 1000000 := by unfold keys; rw [List.length_map]; exact hlen
  obtain ⟨pl, hpl0⟩ : ∃ pl, pl = w.heap.size := ⟨_, rfl⟩
  rw [← hpl0] at hbox hpl hp0 hv0
  have HPL := Lib.hid hpl0
  have c2 := cell_at hA0.blk 2
  have f2 := fun (w' : World) (bb : w'.heap[c]? = some (.cells #[.int .i64 s.bud, .pointer (some ⟨bt, 0, none⟩), v, .int .i64 (usedL s.U), .int .i64 s.ver, .int .i64 s.gone] 74 (0, 0))) => frozen_at bb 2
  simp at c2
  -- behind the order's turn
  have ORD := Lib.hid (fun (w1 : World) (v' : Value) (hs : Sl w1 9 1 ((keys s.U).filter (fun x => decide (x ≠ key))).length v' (strs ((keys s.U).filter (fun x => decide (x ≠ key))))) (hk : Kept (fun k => v.ownBlock = some k) (w.alloc (.cells #[.string key] 9)) w1) (ho : ∀ k, v'.ownBlock = some k → v.ownBlock = some k) =>
    (⟨(hk.block c (lt_of_block hA0.blk) (fun e => (hA0.vt c e).2 rfl)).trans hA0.blk, hA0.setOrd hk hs (fun k hk' => .inl (ho k hk'))⟩ : w1.heap[c]? = some (.cells #[.int .i64 s.bud, .pointer (some ⟨bt, 0, none⟩), v, .int .i64 (usedL s.U), .int .i64 s.ver, .int .i64 s.gone] 74 (0, 0)) ∧ CAt (w1.setCell ⟨c, 2, none⟩ v') c bt S v' Ot s.bud ((keys s.U).filter (fun x => decide (x ≠ key))) s.U (usedL s.U) s.ver s.gone ∧ Grew (cO c v Ot) (w.alloc (.cells #[.string key] 9)) (cO c v' Ot) (w1.setCell ⟨c, 2, none⟩ v')))
  have STR := Lib.hid (strike_key v (keys s.U) pl key _ hA0.ord hkl hp0 hv0)
  have HK := Lib.hid hK
  have hnd := Lib.hid hA.tab.1.nodup
  clear hA hA0 hK hp0 hv0 hkl
  go_enter Tryz.func77, Tryz.ntmps77
  go_wp2_with fail
  rw [← hpl0]
  clear hpl0
  refine STR.out.mono ?_
  rintro e w1 ⟨v', rfl, hs1, hk1, ho1⟩
  obtain ⟨ao', ca', hv', _⟩ := (Rd.of_sl hs1).shape
  generalize hln : ((keys s.U).filter (fun x => decide (x ≠ key))).length = ln at hv'
  subst hv'
  have HLN := Lib.hid hln
  clear hln
  obtain ⟨hb1, hA2, hG2⟩ := ORD.out w1 _ hs1 hk1 ho1
  have hG2' : Grew (cO c v Ot) w (cO c (.slice ao' ln ca') Ot) (w1.setCell ⟨c, 2, none⟩ (.slice ao' ln ca')) := (Grew.of_kept hkb).trans hG2
  have hf2 := f2 w1 hb1
  have cc2 := cell_at hb1 2
  simp at cc2
  obtain ⟨hbx2, hpl2⟩ := hG2.other hbox hpl
  have HA2 := Lib.hid hA2
  have HG2 := Lib.hid hG2'
  clear hs1 hk1 ho1 hb1 hG2 hG2' hbox hpl hkb c2
  generalize hw2 : w1.setCell ⟨c, 2, none⟩ (.slice ao' ln ca') = w2 at *
  have HW2 := Lib.hid hw2
  have t1 := cell_at hA2.blk 1
  have b0 := cell_at hbx2 0
  simp at t1 b0
  have lc2 := lt_of_block hA2.blk
  have lp2 := lt_of_block hbx2
  have hsz : S ≤ 200000 := hA2.sS
  have TG := Lib.hid (fun (w' : World) (hk : Kept (fun _ => False) w2 w') => tb_get key (hA2.tab.kept hk (fun _ _ h => h)) (by omega) (by omega))
  have STEP := Lib.hid (fun (W : World) (hkW : Kept (fun _ => False) w2 W) (w3 : World) (O' : Nat → Prop) (L' : List It) (ht : Tb w3 bt O' 0 S L') (hg : Grew Ot W O' w3) (T : Nat → Prop) (W' : World) (hkW' : Kept T w3 W') (hd : ∀ k, cO c (.slice ao' ln ca') O' k → ¬ T k) (hgT : ∀ k, isG k → ¬ T k) (hT0 : ∀ k, k < w.heap.size → ¬ T k) =>
    (⟨((hA2.kept0 hkW).tabStep ht hg hsz).1.kept hkW' hd hgT, ((HG2.out.kept hkW).trans ((hA2.kept0 hkW).tabStep ht hg hsz).2).keptT hkW' hT0⟩ : CAt W' c bt S (.slice ao' ln ca') O' s.bud ((keys s.U).filter (fun x => decide (x ≠ key))) L' (usedL s.U) s.ver s.gone ∧ Grew (cO c v Ot) w (cO c (.slice ao' ln ca') O') W'))
  have BOX := Lib.hid (fun (z : Obj) (w3 : World) (O' : Nat → Prop) (hg : Grew Ot (w2.alloc z).drew O' w3) => hA2.boxed z hg)
  have hw2s : w.heap.size ≤ w2.heap.size := HG2.out.1.size
  clear hA2
  cases hl : look s.U key with
  | none =>
    have hfin : ∀ (w' : World) (v' : Value) (Ot' : Nat → Prop), CAt w' c bt S v' Ot' s.bud ((keys s.U).filter (fun x => decide (x ≠ key))) s.U (usedL s.U) s.ver s.gone → Grew (cO c v Ot) w (cO c v' Ot') w' → Steps w c (cO c v Ot) { s with U := delL s.U key } w' := by
      intro w' v' Ot' h1 h2
      refine ⟨_, ⟨bt, S, v', Ot', rfl, ?_⟩, h2⟩
      show CAt w' c bt S v' Ot' s.bud (keys (delL s.U key)) (delL s.U key) (usedL (delL s.U key)) s.ver s.gone
      rw [HK.out]
      have e := look_none_del hl
      rw [e]
      exact h1
    have FIN := Lib.hid hfin
    have hgv : gotV none = .tuple #[.agg #[.string ⟨#[]⟩, .string ⟨#[]⟩, .int .i64 0, .int .i64 0], .bool false] := rfl
    simp only [hl, hgv] at TG
    clear hfin hl hgv
    go_wp2_with fail
    go_cut [5] (fun isv wr => isv = .bool false ∧ ∃ O', CAt wr c bt S (.slice ao' ln ca') O' s.bud ((keys s.U).filter (fun x => decide (x ≠ key))) s.U (usedL s.U) s.ver s.gone ∧ Grew (cO c v Ot) w (cO c (.slice ao' ln ca') O') wr)
    case first =>
      go_region_with (go_at_call 41; first
        | ((with_reducible refine (TG.out w2.drew ((Kept.refl _ w2).drew)).mono ?_); rintro e w3 ⟨rfl, O', ht, hg⟩; have FINQ := Lib.hid (fun W' hk => STEP.out _ ((Kept.refl _ w2).drew) w3 O' _ ht hg (fun _ => False) W' hk (fun _ _ h => h) (fun _ _ h => h) (fun _ _ h => h)); clear ht hg)
        | ((with_reducible refine (TG.out (w2.alloc (.cells #[.string { data := #[] }, .string { data := #[] }, .int .i64 0, .int .i64 0] 44)).drew (((Kept.refl _ w2).alloc _).drew)).mono ?_); rintro e w3 ⟨rfl, O', ht, hg⟩; obtain ⟨hbz, hbo, hbg⟩ := BOX.out _ _ _ hg; have z0 := cell_at hbz 0; have z1 := cell_at hbz 1; have z2 := cell_at hbz 2; have z3 := cell_at hbz 3; have y0 := frozen_at hbz 0; have y1 := frozen_at hbz 1; have y2 := frozen_at hbz 2; have y3 := frozen_at hbz 3; simp at z0 z1 z2 z3; have FINQ := Lib.hid (fun W' hk => STEP.out _ (((Kept.refl _ w2).alloc _).drew) w3 O' _ ht hg (fun k => k = w2.heap.size) W' hk hbo hbg (fun k hk e => by omega)); clear ht hg hbz hbo hbg))
      all_goals
        go_wp2_with fail
        go_meet
        case rel => exact ⟨rfl, _, FINQ.out _ (by first | exact (Kept.refl _ _).alloc _ | exact kept_at _ (kept_at _ (kept_at _ (kept_at _ (Kept.refl _ _)))))⟩
    case rest =>
      obtain ⟨rfl, O', h1, h2⟩ := hcut
      have FF := Lib.hid (FIN.out _ _ _ h1 h2)
      clear h1 h2
      go_wp2_with fail
      go_end0
      exact ⟨rfl, FF.out⟩
  | some x =>
    have hfin : ∀ (w' : World) (v' : Value) (Ot' : Nat → Prop), CAt w' c bt S v' Ot' s.bud ((keys s.U).filter (fun x => decide (x ≠ key))) (delL s.U key) (usedL s.U - costI x) s.ver s.gone → Grew (cO c v Ot) w (cO c v' Ot') w' → Steps w c (cO c v Ot) { s with U := delL s.U key } w' := by
      intro w' v' Ot' h1 h2
      refine ⟨_, ⟨bt, S, v', Ot', rfl, ?_⟩, h2⟩
      show CAt w' c bt S v' Ot' s.bud (keys (delL s.U key)) (delL s.U key) (usedL (delL s.U key)) s.ver s.gone
      rw [HK.out, usedL_del_some hnd.out hl]
      exact h1
    have hxm := ((look_mem hnd.out).1 hl).1
    have hxu := usedL_le_of_mem hxm
    have hxc : (x.key.size : Int) + x.val.size + 16 ≤ 10000000 := by unfold costI at hxu; omega
    have hxp := costI_pos x
    have FIN := Lib.hid hfin
    have hgv : gotV (some x) = .tuple #[.agg #[.string x.key, .string x.val, .int .i64 x.ver, .int .i64 x.til], .bool true] := rfl
    simp only [hl, hgv] at TG
    have MA := Lib.hid (fun (w3 : World) (O' : Nat → Prop) (ht : Tb w3 bt O' 0 S s.U) (hg : Grew Ot w2.drew O' w3) => mid_a HA2.out HG2.out hbx2 hpl2 ht hg x)
    have MB := Lib.hid (fun (w3 : World) (O' : Nat → Prop) (ht : Tb w3 bt O' 0 S s.U) (hg : Grew Ot (w2.alloc zBox).drew O' w3) => mid_b HA2.out HG2.out hbx2 hpl2 ht hg x)
    clear hfin hl hgv hxm STEP
    go_wp2_with fail
    go_cut [4, 5] (fun p isv wr => isv = .bool true ∧ ∃ q, p = .pointer (some ⟨q, 0, none⟩) ∧ Mid w c (cO c v Ot) bt S (.slice ao' ln ca') s.bud ((keys s.U).filter (fun x => decide (x ≠ key))) s.U (usedL s.U) s.ver s.gone pl (.cells #[.string key] 9) q x wr)
    case first =>
      go_region_with (go_at_call 41; first
        | ((with_reducible refine (TG.out w2.drew ((Kept.refl _ w2).drew)).mono ?_); rintro e w3 ⟨rfl, O', ht, hg⟩; have FINQ := Lib.hid (MA.out w3 O' ht hg); clear ht hg)
        | ((with_reducible refine (TG.out (w2.alloc (.cells #[.string { data := #[] }, .string { data := #[] }, .int .i64 0, .int .i64 0] 44)).drew (((Kept.refl _ w2).alloc _).drew)).mono ?_); rintro e w3 ⟨rfl, O', ht, hg⟩; obtain ⟨hbz, hbo, hbg⟩ := BOX.out _ _ _ hg; have z0 := cell_at hbz 0; have z1 := cell_at hbz 1; have z2 := cell_at hbz 2; have z3 := cell_at hbz 3; have y0 := frozen_at hbz 0; have y1 := frozen_at hbz 1; have y2 := frozen_at hbz 2; have y3 := frozen_at hbz 3; simp at z0 z1 z2 z3; have FINQ := Lib.hid (MB.out w3 O' ht hg); clear ht hg hbz hbo hbg))
      all_goals
        go_wp2_with fail
        go_meet
        case rel => exact ⟨rfl, _, rfl, FINQ.out⟩
    case rest =>
      obtain ⟨rfl, q, rfl, O2, hA4, hG4, hb4, hn4, hq4, hnq4, hwq, hpq⟩ := hcut
      clear MA MB TG BOX HA2 HG2 hbx2 hpl2 t1 b0 lc2 lp2
      have t1 := cell_at hA4.blk 1
      have b0 := cell_at hb4 0
      simp at t1 b0
      have TD := Lib.hid (fun (w' : World) (hk : Kept (fun _ => False) wc w') => tb_del key (hA4.tab.kept hk (fun _ _ h => h)) (by omega) (by omega))
      have DST := Lib.hid (fun (W : World) (hkW : Kept (fun _ => False) wc W) (w3 : World) (O' : Nat → Prop) (ht : Tb w3 bt O' 0 S (delL s.U key)) (hg : Grew O2 W O' w3) =>
        (let h := (hA4.kept0 hkW).tabStep ht hg hsz
        ⟨O', h.1, (hG4.kept hkW).trans h.2, (h.2.other (b := q) ((hkW.block q (lt_of_block hq4) (fun h => h)).trans hq4) hnq4).1, (h.2.other (b := q) ((hkW.block q (lt_of_block hq4) (fun h => h)).trans hq4) hnq4).2⟩ : ∃ O', CAt w3 c bt S (.slice ao' ln ca') O' s.bud ((keys s.U).filter (fun x => decide (x ≠ key))) (delL s.U key) (usedL s.U) s.ver s.gone ∧ Grew (cO c v Ot) w (cO c (.slice ao' ln ca') O') w3 ∧ w3.heap[q]? = some (itBox x) ∧ ¬ cO c (.slice ao' ln ca') O' q))
      clear hA4 hG4 hb4 hn4 hq4 hnq4
      go_wp2_with fail
      go_cut [] (fun wr => ∃ O', CAt wr c bt S (.slice ao' ln ca') O' s.bud ((keys s.U).filter (fun x => decide (x ≠ key))) (delL s.U key) (usedL s.U) s.ver s.gone ∧ Grew (cO c v Ot) w (cO c (.slice ao' ln ca') O') wr ∧ wr.heap[q]? = some (itBox x) ∧ ¬ cO c (.slice ao' ln ca') O' q)
      case first =>
        go_region_with (go_at_call 103; refine (TD.out _ ((Kept.refl _ wc).drew)).mono ?_; rintro e w3 ⟨rfl, O', ht, hg⟩; have FINQ := Lib.hid (DST.out _ ((Kept.refl _ wc).drew) w3 O' ht hg); clear ht hg)
        all_goals
          go_wp2_with fail
          go_meet
          case rel => exact FINQ.out
      case rest =>
        clear TD DST t1 b0
        obtain ⟨O5, hA5, hG5, hq5, hnq5⟩ := hcut
        have k3 := cell_at hA5.blk 3
        have f3 := frozen_at hA5.blk 3
        have q0 := cell_at hq5 0
        have q1 := cell_at hq5 1
        have q2 := cell_at hq5 2
        have q3 := cell_at hq5 3
        simp at k3 q0 q1 q2 q3
        have lc5 := lt_of_block hA5.blk
        have lq5 := lt_of_block hq5
        have END := Lib.hid (fun (W : World) (hkW : Kept (fun _ => False) wc W) => FIN.out _ _ _ ((hA5.kept0 hkW).setUsed (usedL s.U - costI x)).1 ((hG5.kept hkW).trans ((hA5.kept0 hkW).setUsed (usedL s.U - costI x)).2))
        have K3 := Lib.hid (fun (W : World) (hkW : Kept (fun _ => False) wc W) => (⟨hkW.cell0 k3, frozen_at ((hkW.block c lc5 (fun h => h)).trans hA5.blk) 3⟩ : W.cell? ⟨c, 3, none⟩ = some (.int .i64 (usedL s.U)) ∧ W.frozen? ⟨c, 3, none⟩ = false))
        have hwr : IntKind.i64.wrap (usedL s.U - costI x) = usedL s.U - costI x := IntWalk.i64_in _ (by omega)
        have hwr2 : wrap64 (usedL s.U - costI x) = usedL s.U - costI x := by unfold wrap64; omega
        have hx1 : x.key.size ≤ 1000000000 := by omega
        have hx2 : x.val.size ≤ 1000000000 := by omega
        clear hA5 hG5 hq5 hnq5
        go_wp2_with fail
        go_region_with (go_at_call 23; refine (cost_any x _ hx1 hx2).mono ?_; rintro e w3 ⟨rfl, hk3⟩; obtain ⟨k3', f3'⟩ := K3.out w3 (((Kept.refl _ wc).drew).trans hk3 (fun _ _ h => h)); have FINQ := Lib.hid (END.out w3 (((Kept.refl _ wc).drew).trans hk3 (fun _ _ h => h))); clear hk3)
        all_goals
          go_wp2_with fail
          go_end0
          exact ⟨rfl, FINQ.out⟩
end Go.Proofs.YtekcjoogggoijaaGreatDoor
