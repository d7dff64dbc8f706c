/-
  SameItems of two lists that are alike: true.
-/
import Derived.Test.YtekcjoogggoijaaGreatDoorCp29
import Derived.Test.YtekcjoogggoijaaGreatDoorCp33
import Derived.Test.YtekcjoogggoijaaGreatDoorCp02
import Derived.BigRegion
import Derived.Deep.LoopGhost
set_option linter.unusedVariables false
set_option linter.unusedSimpArgs false
set_option linter.unnecessarySimpa false
namespace Go.Proofs.YtekcjoogggoijaaGreatDoor
open Go.RowKit
set_option maxRecDepth 100000

theorem did_scan0 {s : CSt} (x : Cm) (now : Int) (hop : x.op = 11) : didC s x now = scanC s x := by
  unfold didC
  rw [if_neg (by omega), if_pos hop]
theorem did_flush0 {s : CSt} (x : Cm) (now : Int) (hop : x.op = 12) : didC s x now = (⟨0, ⟨#[]⟩, s.U.length, 0, []⟩, { s with U := [] }) := by
  unfold didC
  rw [if_neg (by omega), if_neg (by omega), if_pos hop]
theorem scanC_state (s : CSt) (x : Cm) : (scanC s x).2 = s := by
  unfold scanC
  split <;> rfl
theorem FitC.len {s : CSt} (h : FitC s) : s.U.length ≤ 200000 := by have := usedL_ge s.U; have := h.used; omega
section
variable {w0 wr : World} {c : Nat} {O0 : Nat → Prop} {s : CSt} {B : List (Nat × Obj)}
theorem Bes.scanop {rb : Nat} (h : Bes w0 c O0 s ((rb, zRp) :: B) wr) (x : Cm) (hl : s.U.length ≤ 200000) (hn1 : x.num ≤ 1000000000000) :
    Calls Tryz.prog 28 #[.pointer (some ⟨c, 0, none⟩), .agg #[.int .i64 x.op, .string x.key, .string x.val, .int .i64 x.num, .int .i64 x.ver]] wr fun e w' => ∃ kv ao ca, kv = .slice ao (scanC s x).1.keys.length ca ∧ e = .returned (.agg #[.int .i64 (scanC s x).1.errno, .string (scanC s x).1.val, .int .i64 (scanC s x).1.num, .int .i64 (scanC s x).1.ver, kv]) ∧ w'.heap[rb]? = some zRp ∧ Hid ((over5 w' rb (scanC s x).1 kv).heap[rb]? = some (rpO (scanC s x).1 kv) ∧ KSaid w0 c O0 s (scanC s x).1 (.returned (rpV (scanC s x).1 kv)) (over5 w' rb (scanC s x).1 kv)) := by
  obtain ⟨O', h1, h2, h3⟩ := h.cs
  refine (cscan c O' s x wr h1 hl hn1).mono ?_
  rintro e w' ⟨kv, O'', rfl, c1, g1, k1, k2⟩
  have hr := g1.other (h.box (rb, zRp) (.head _)).1 (h3 (rb, zRp) (.head _))
  have hrb := h.lt (p := (rb, zRp)) (.head _)
  have hr0 := (h.box (rb, zRp) (.head _)).2
  simp only at hrb hr0 hr
  have hk := over5_kept w' rb (scanC s x).1 kv
  obtain ⟨ao, ca, hsh, _⟩ := (Rd.of_sl k1).shape
  refine ⟨kv, ao, ca, hsh, rfl, hr.1, Lib.hid ⟨over5_block hr.1 _ _, kv, O'', rfl, c1.kept hk (fun k hO e => hr.2 (e ▸ hO)) (fun k hg e => by have := h.gl k hg; omega), (h2.trans g1).keptT hk (fun i hi e => by omega), k1.kept hk (fun k e e2 => by have := (k2 k e).1; omega), fun k e => ?_⟩⟩
  have := h.size
  exact ⟨by have := (k2 k e).1; omega, (k2 k e).2⟩
theorem Bes.flushed (h : Bes w0 c O0 s B wr) {w1 : World} {bt : Nat} (hk : Kept (fun _ => False) wr w1) (hbt : wr.heap.size ≤ bt) (ht : Tb w1 bt (fun k => k = bt) 0 8 []) :
    Bes w0 c O0 { s with U := [] } B (((w1.setCell ⟨c, 1, none⟩ (.pointer (some ⟨bt, 0, none⟩))).setCell ⟨c, 2, none⟩ (.slice none 0 0)).setCell ⟨c, 3, none⟩ (.int .i64 0)) := by
  refine h.step fun O' h1 _ _ => ?_
  obtain ⟨bt0, S, v, Ot, rfl, h2⟩ := h1
  have h3 := h2.kept0 hk
  have hc : c < wr.heap.size := lt_of_block h2.blk
  have hkc : Kept (fun k => k = c) w1 (((w1.setCell ⟨c, 1, none⟩ (.pointer (some ⟨bt, 0, none⟩))).setCell ⟨c, 2, none⟩ (.slice none 0 0)).setCell ⟨c, 3, none⟩ (.int .i64 0)) := kept_at _ (kept_at _ (kept_at _ (Kept.refl _ w1)))
  refine ⟨cO c (.slice none 0 0) (fun k => k = bt), ⟨bt, 8, .slice none 0 0, fun k => k = bt, rfl, ⟨?_, ht.kept hkc (fun k hO e => by omega), Sl.nil _ _ _, by omega, (fun k hk => by cases hk), by omega, h3.laid.kept hkc (fun k hg e => h2.above k (.inl e) hg), ?_⟩⟩, ?_⟩
  · rw [setCell_block (setCell_block (setCell_block h3.blk _ _) _ _) _ _]
    rfl
  · intro k hO hg
    rcases hO with rfl | rfl | hO
    · exact h2.above _ (.inl rfl) hg
    · have := h2.laid.lt hg; omega
    · cases hO
  · refine ⟨(hk.mono (fun _ _ h => h.elim)).trans (hkc.mono (fun k _ e => .inl e)) (fun _ _ h => h), fun k hO => ?_⟩
    rcases hO with rfl | rfl | hO
    · exact .inl (.inl rfl)
    · exact .inr hbt
    · cases hO
end

set_option maxHeartbeats 16000000 in
theorem cdo2 (c : Nat) (O : Nat → Prop) (s : CSt) (x : Cm) (now : Int) (w : World) (h : CS w c O s) (hf : FitC s) (hk : x.key.size ≤ 1000000000) (hv : x.val.size ≤ 1000000000) (hop : x.op = 11 ∨ x.op = 12) :
    Calls Tryz.prog 8 #[.pointer (some ⟨c, 0, none⟩), .agg #[.int .i64 x.op, .string x.key, .string x.val, .int .i64 x.num, .int .i64 x.ver], .int .i64 now] w (KSaid w c O (doC s x now).2 (doC s x now).1) := by
  have hB := two_boxes h (cmO x) zRp
  obtain ⟨rb, hrb⟩ : ∃ rb, rb = w.heap.size + 1 := ⟨_, rfl⟩
  obtain ⟨xb, hxb⟩ : ∃ xb, xb = w.heap.size := ⟨_, rfl⟩
  obtain ⟨W0, hW0⟩ : ∃ W0, W0 = (w.alloc (cmO x)).alloc zRp := ⟨_, rfl⟩
  rw [← hrb, ← hxb, ← hW0] at hB
  obtain ⟨bt, t1, _⟩ := hB.len
  have ht1 : w.cell? ⟨c, 1, none⟩ = some (.pointer (some ⟨bt, 0, none⟩)) := by
    obtain ⟨bt', t1', _⟩ := cs_open h
    have hk : Kept (fun _ => False) w W0 := hW0 ▸ ((Kept.refl _ w).alloc _).alloc _
    rw [hk.cell0 t1'] at t1
    rw [t1', t1]
  have hcl : c < w.heap.size := by obtain ⟨_, _, _, _, _, _, _, hc, _⟩ := cs_cells h; exact hc
  have RGT := Lib.hid (right_any x W0 hk hv)
  have HB := Lib.hid hB
  have HF := Lib.hid hf
  have HW0 := Lib.hid hW0
  have HRB := Lib.hid hrb
  have HXB := Lib.hid hxb
  clear h hB hf t1 hW0 hrb hxb
  go_enter Tryz.func8, Tryz.ntmps8
  go_wp2_with fail
  rw [← HRB.out, ← HXB.out, ← show W0 = (w.alloc (.cells #[.int .i64 x.op, .string x.key, .string x.val, .int .i64 x.num, .int .i64 x.ver] 39)).alloc (.cells #[.int .i64 0, .string { data := #[] }, .int .i64 0, .int .i64 0, .slice none 0 0] 51) from HW0.out]
  refine RGT.out.mono ?_
  rintro e w1 ⟨rfl, hk1⟩
  have hB := HB.out.kept0 hk1
  clear ht1 hcl HW0 HRB HXB RGT HB hk1
  have hrx := (hB.box (rb, zRp) (.head _)).1
  obtain ⟨m0, m1, m2, m3, m4, m5⟩ := cm_facts (hB.box (xb, cmO x) (.tail _ (.head _))).1
  obtain ⟨z0, z1, z2, z3, z4, y0, y1, y2, y3, y4, y5⟩ := z_facts hrx
  have RET := Lib.hid hB.rets
  have HB := Lib.hid hB
  clear hB hrx
  by_cases hr : rightC x
  · by_cases hn0 : now < 0
    · have HW : Hid (doC s x now = (Rp.err 1, s)) := Lib.hid (if_pos (.inr (.inl hn0)))
      rw [decide_eq_true hr]
      clear hr
      go_wp2_with fail
      (try simp only [Exit.inBlock, Exit.then])
      refine bodyPost_ret (results_cell_row rfl _ _ rb _ _ _ _ rfl (RET.out (Rp.err 1) (.slice none 0 0)).1 Tryz.underlying51 rfl rp_size) rfl ?_
      rw [HW.out]
      exact KSaid.of_steps rfl (RET.out (Rp.err 1) (.slice none 0 0)).2
    · by_cases hn1 : 1000000000000 < now
      · have HW : Hid (doC s x now = (Rp.err 1, s)) := Lib.hid (if_pos (.inr (.inr hn1)))
        rw [decide_eq_true hr]
        clear hr
        go_wp2_with fail
        (try simp only [Exit.inBlock, Exit.then])
        refine bodyPost_ret (results_cell_row rfl _ _ rb _ _ _ _ rfl (RET.out (Rp.err 1) (.slice none 0 0)).1 Tryz.underlying51 rfl rp_size) rfl ?_
        rw [HW.out]
        exact KSaid.of_steps rfl (RET.out (Rp.err 1) (.slice none 0 0)).2
      · have HD : Hid (doC s x now = didC { s with U := sweepC now s.U } x now) := Lib.hid (if_neg (fun h => h.elim (fun h => h hr) (fun h => h.elim hn0 hn1)))
        have SW := Lib.hid (HB.out.sweep HF.out now (by omega) (by omega))
        have HFS := Lib.hid (HF.out.swept now)
        rw [decide_eq_true hr]
        have HR := Lib.hid hr
        clear hr
        go_wp2_with fail
        refine SW.out.mono ?_
        rintro e w2 ⟨rfl, hB⟩
        generalize ({ s with U := sweepC now s.U } : CSt) = s1 at *
        clear m0 m1 m2 m3 m4 m5 z0 z1 z2 z3 z4 y0 y1 y2 y3 y4 y5 RET HB SW HF
        have hrx := (hB.box (rb, zRp) (.head _)).1
        obtain ⟨m0, m1, m2, m3, m4, m5⟩ := cm_facts (hB.box (xb, cmO x) (.tail _ (.head _))).1
        obtain ⟨z0, z1, z2, z3, z4, y0, y1, y2, y3, y4, y5⟩ := z_facts hrx
        obtain ⟨bt, t1, LEN⟩ := hB.len
        obtain ⟨_, _, _, k3, _, _, _, kc⟩ := hB.cells
        have HLEN := Lib.hid LEN
        have RET := Lib.hid hB.rets
        have HB := Lib.hid hB
        obtain ⟨op, key, val, num, ver⟩ := x
        obtain ⟨ho0, ho1, hky, hvl, hm0, hm1, _, _⟩ := HR.out
        simp only at m0 m1 m2 m3 m4 ho0 ho1 hky hvl hm0 hm1 hop hk hv
        have hkz : key.size ≤ 60 := by
          unfold keyOk at hky
          split at hky
          · exact hky
          · split at hky
            · omega
            · exact hky.2
        clear hB hrx LEN hky
        rcases hop with rfl | rfl
        · have HW : Hid (doC s ⟨11, key, val, num, ver⟩ now = scanC s1 ⟨11, key, val, num, ver⟩) := Lib.hid (HD.out.trans (did_scan0 _ _ rfl))
          have ST := Lib.hid (HB.out.scanop ⟨11, key, val, num, ver⟩ HFS.out.len hm1)
          clear HD HR
          go_wp2_with fail
          refine ST.out.mono ?_
          rintro e w4 ⟨_, ao, ca, rfl, rfl, hz4, FIN⟩
          obtain ⟨z0, z1, z2, z3, z4, y0, y1, y2, y3, y4, y5⟩ := z_facts hz4
          clear hz4
          go_wp2_with fail
          (try simp only [Exit.inBlock, Exit.then])
          refine bodyPost_ret (results_cell_row rfl _ _ rb _ _ _ _ rfl FIN.out.1 Tryz.underlying51 rfl rp_size) rfl ?_
          rw [HW.out, show (scanC s1 ⟨11, key, val, num, ver⟩).2 = s1 from scanC_state _ _]
          exact FIN.out.2
        · have HW : Hid (doC s ⟨12, key, val, num, ver⟩ now = (⟨0, ⟨#[]⟩, s1.U.length, 0, []⟩, { s1 with U := [] })) := Lib.hid (HD.out.trans (did_flush0 _ _ rfl))
          have NT := Lib.hid (fun W => tb_new 0 W (by omega))
          clear HD HR
          go_wp2_with fail
          refine (HLEN.out _ (Kept.refl _ _)).mono ?_
          rintro e w3 ⟨rfl, rfl⟩
          go_wp2_with fail
          refine (NT.out _).mono ?_
          rintro e w4 ⟨rfl, ht, hk4⟩
          have f1 := (HB.out.kept0 hk4).frozen 1
          have f2 := (HB.out.kept0 hk4).frozen 2
          have f3 := (HB.out.kept0 hk4).frozen 3
          obtain ⟨_, c0, c2, c3, c4, c5, _, cc⟩ := (HB.out.kept0 hk4).cells
          obtain ⟨_, t4, _⟩ := (HB.out.kept0 hk4).len
          have HB5 := Lib.hid (HB.out.flushed hk4 (Nat.le_refl _) ht)
          clear ht hk4 m0 m1 m2 m3 m4 m5 z0 z1 z2 z3 z4 y0 y1 y2 y3 y4 y5 RET
          obtain ⟨z0, z1, z2, z3, z4, y0, y1, y2, y3, y4, y5⟩ := z_facts (HB5.out.box (rb, zRp) (.head _)).1
          have RET5 := Lib.hid HB5.out.rets
          go_wp2_with fail
          (try simp only [Exit.inBlock, Exit.then])
          refine bodyPost_ret (results_cell_row rfl _ _ rb _ _ _ _ rfl (RET5.out ⟨0, ⟨#[]⟩, s1.U.length, 0, []⟩ (.slice none 0 0)).1 Tryz.underlying51 rfl rp_size) rfl ?_
          rw [HW.out]
          exact KSaid.of_steps rfl (RET5.out ⟨0, ⟨#[]⟩, s1.U.length, 0, []⟩ (.slice none 0 0)).2
  · have HW : Hid (doC s x now = (Rp.err 1, s)) := Lib.hid (if_pos (.inl hr))
    rw [decide_eq_false hr]
    clear hr
    go_wp2_with fail
    (try simp only [Exit.inBlock, Exit.then])
    refine bodyPost_ret (results_cell_row rfl _ _ rb _ _ _ _ rfl (RET.out (Rp.err 1) (.slice none 0 0)).1 Tryz.underlying51 rfl rp_size) rfl ?_
    rw [HW.out]
    exact KSaid.of_steps rfl (RET.out (Rp.err 1) (.slice none 0 0)).2

theorem doC_keys {s : CSt} {x : Cm} {now : Int} (h11 : x.op ≠ 11) : (doC s x now).1.keys = [] := by
  unfold doC
  split
  · rfl
  · unfold didC
    split
    · unfold setC
      split
      · rfl
      · split
        · rfl
        · split
          · rfl
          · split
            · rfl
            · exact writeC_keys _ _
    · try rw [if_neg h11]
      split
      · rfl
      · split
        · rfl
        · unfold itemC
          split
          · rfl
          · split
            · rfl
            · split
              · rfl
              · split
                · split <;> rfl
                · split
                  · rfl
                  · split
                    · rfl
                    · split
                      · unfold incrC
                        split
                        · split
                          · rfl
                          · simp only
                            split
                            · exact writeC_keys _ _
                            · exact writeC_keys _ _
                        · rfl
                      · unfold behindC
                        split
                        · rfl
                        · exact writeC_keys _ _
theorem cdo_all (c : Nat) (O : Nat → Prop) (s : CSt) (x : Cm) (now : Int) (w : World) (h : CS w c O s) (hf : FitC s) (hk : x.key.size ≤ 1000000000) (hv : x.val.size ≤ 1000000000) :
    Calls Tryz.prog 8 #[.pointer (some ⟨c, 0, none⟩), .agg #[.int .i64 x.op, .string x.key, .string x.val, .int .i64 x.num, .int .i64 x.ver], .int .i64 now] w (KSaid w c O (doC s x now).2 (doC s x now).1) := by
  by_cases hop : x.op = 11 ∨ x.op = 12
  · exact cdo2 c O s x now w h hf hk hv hop
  · refine (cdo c O s x now w h hf hk hv (fun e => hop (.inl e)) (fun e => hop (.inr e))).mono ?_
    rintro e w' ⟨rfl, hst⟩
    exact KSaid.of_steps (doC_keys (fun e => hop (.inl e))) hst
end Go.Proofs.YtekcjoogggoijaaGreatDoor
namespace Go.Proofs.YtekcjoogggoijaaGreatDoor
open Go.RowKit
set_option maxRecDepth 100000

/-- The slice's row is one of the boxes. -/
def HeldS (B : List (Nat × Obj)) (E : TypeId) (size n : Nat) (v : Value) (xs : List Value) : Prop := ∀ W : World, (∀ p ∈ B, W.heap[p.1]? = some p.2) → Sl W E size n v xs
theorem HeldS.more {B B' : List (Nat × Obj)} {E : TypeId} {size n : Nat} {v : Value} {xs : List Value} (h : HeldS B E size n v xs) (hB : ∀ p ∈ B, p ∈ B') : HeldS B' E size n v xs := fun W hW => h W fun p hp => hW p (hB p hp)
theorem Sl.block {w : World} {E : TypeId} {size n : Nat} {v : Value} {xs : List Value} (h : Sl w E size n v xs) {g : Nat} (hg : v.ownBlock = some g) : ∃ o, w.heap[g]? = some o := by
  rcases h.2 with ⟨rfl, _⟩ | ⟨g', off, cap, cur, rfl, h1, _⟩
  · cases hg
  · simp [Value.ownBlock] at hg
    exact ⟨_, hg ▸ h1⟩
section
variable {w0 w w' : World} {c : Nat} {s : CSt} {m : Int} {B : List (Nat × Obj)} {O O' : Nat → Prop} {E : TypeId} {size n : Nat} {v : Value} {xs : List Value}
theorem OwnC.held (h : OwnC w0 w c s m B) (hh : HeldS B E size n v xs) : Sl w E size n v xs := hh w fun p hp => (h.2.box p hp).1
theorem OwnC.drop {p : Nat × Obj} (h : OwnC w0 w c s m (p :: B)) : OwnC w0 w c s m B := ⟨h.1, h.2.drop⟩
/-- A fresh slice that the cache told joins the boxes. -/
theorem OwnC.hold (h : OwnC w0 w c s m B) {v : Value} (hs : Sl w E size n v xs) (hv : ∀ k, v.ownBlock = some k → w0.heap.size ≤ k ∧ (∀ p ∈ B, p.1 ≠ k) ∧ ∃ O', CS w c O' s ∧ Grew (fun _ => False) w0 O' w ∧ (∀ p ∈ B, ¬ O' p.1) ∧ ¬ O' k) :
    ∃ B', OwnC w0 w c s m B' ∧ (∀ p ∈ B, p ∈ B') ∧ HeldS B' E size n v xs := by
  cases hb : v.ownBlock with
  | none => exact ⟨B, h, fun _ hp => hp, fun W hW => hs.same fun g hg => by rw [hb] at hg; cases hg⟩
  | some g =>
    obtain ⟨o, ho⟩ := hs.block hb
    obtain ⟨h0, h1, O', c1, c2, c3, c4⟩ := hv g hb
    refine ⟨(g, o) :: B, ⟨h.1, ⟨O', c1, c2, fun p hp => ?_⟩, fun p hp => ?_, h.2.gl, ?_⟩, fun _ hp => .tail _ hp, fun W hW => hs.same fun g' hg => ?_⟩
    · rcases List.mem_cons.1 hp with rfl | hp
      · exact c4
      · exact c3 p hp
    · rcases List.mem_cons.1 hp with rfl | hp
      · exact ⟨ho, h0⟩
      · exact h.2.box p hp
    · rw [List.map_cons, List.nodup_cons]
      refine ⟨fun hm => ?_, h.2.nd⟩
      obtain ⟨p, hp, e⟩ := List.mem_map.1 hm
      exact h1 p hp e
    · rw [hb] at hg
      injection hg with hg
      subst hg
      rw [ho]
      exact hW (g, o) (.head _)
theorem own_items (h : OwnC w0 w c s m B) : Calls Tryz.prog 11 #[.pointer (some ⟨c, 0, none⟩)] w fun e w' => ∃ v B', e = .returned v ∧ OwnC w0 w' c s m B' ∧ (∀ p ∈ B, p ∈ B') ∧ HeldS B' 44 4 s.U.length v (flat (itemsL s.U)) ∧ ∃ ao ca, v = .slice ao s.U.length ca := by
  obtain ⟨O1, h1, h2, h3⟩ := h.2.cs
  have hu := h.1.used
  have hb := h.1.b1
  have hge := usedL_ge s.U
  refine (citems c O1 s w h1 (by omega) (fun x hx => by have := h.1.keyl x hx; omega)).mono ?_
  rintro e w' ⟨v, O', rfl, g1, g2, g3, g4⟩
  obtain ⟨ao, ca, hsh, _⟩ := (Rd.of_sl g3).shape
  have hB : OwnC w0 w' c s m B := ⟨h.1, ⟨O', g1, h2.trans g2, fun p hp => (g2.other (h.2.box p hp).1 (h3 p hp)).2⟩, fun p hp => ⟨(g2.other (h.2.box p hp).1 (h3 p hp)).1, (h.2.box p hp).2⟩, h.2.gl, h.2.nd⟩
  obtain ⟨B', b1, b2, b3⟩ := hB.hold g3 fun k hk => ⟨by have := (g4 k hk).1; have := h2.1.size; omega, fun p hp e => by have := (g4 k hk).1; have := h.2.lt hp; omega, O', g1, h2.trans g2, fun p hp => (g2.other (h.2.box p hp).1 (h3 p hp)).2, (g4 k hk).2⟩
  exact ⟨v, B', rfl, b1, b2, b3, ao, ca, hsh⟩
theorem own_order (h : OwnC w0 w c s m B) : Calls Tryz.prog 12 #[.pointer (some ⟨c, 0, none⟩)] w fun e w' => ∃ v B', e = .returned v ∧ OwnC w0 w' c s m B' ∧ (∀ p ∈ B, p ∈ B') ∧ HeldS B' 9 1 s.U.length v (strs (keys s.U)) ∧ ∃ ao ca, v = .slice ao s.U.length ca := by
  obtain ⟨O1, h1, h2, h3⟩ := h.2.cs
  have hu := h.1.used
  have hb := h.1.b1
  have hge := usedL_ge s.U
  refine (corder c O1 s w h1 (by omega)).mono ?_
  rintro e w' ⟨v, rfl, k1, k2, k3⟩
  have hkl : (keys s.U).length = s.U.length := by unfold keys; rw [List.length_map]
  rw [hkl] at k1
  obtain ⟨ao, ca, hsh, _⟩ := (Rd.of_sl k1).shape
  have hB := h.kept0 k2
  obtain ⟨B', b1, b2, b3⟩ := hB.hold k1 fun k hk => ⟨by have := k3 k hk; have := h2.1.size; omega, fun p hp e => by have := k3 k hk; have := h.2.lt hp; omega, O1, h1.kept0 k2, h2.kept k2, h3, fun hO => by have := h1.lt hO; have := k3 k hk; omega⟩
  exact ⟨v, B', rfl, b1, b2, b3, ao, ca, hsh⟩
theorem own_orderK (h : OwnC w0 w c s m B) : Calls Tryz.prog 12 #[.pointer (some ⟨c, 0, none⟩)] w fun e w' => ∃ v, e = .returned v ∧ Strs w w' v (Go.Proofs.YtekcjoogggoijaaGreatDoor.keys s.U) := by
  obtain ⟨O1, h1, h2, h3⟩ := h.2.cs
  have hu := h.1.used
  have hb := h.1.b1
  have hge := usedL_ge s.U
  exact corder c O1 s w h1 (by omega)
/-- Any command: its keys' slice joins the boxes. -/
theorem own_doA (h : OwnC w0 w c s m B) (hm : m ≤ 1000000000) (x : Cm) (now : Int) (hk : x.key.size ≤ 1000000000) (hv : x.val.size ≤ 1000000000) {r : Rp} {s' : CSt} (hr : doC s x now = (r, s')) :
    Calls Tryz.prog 8 #[.pointer (some ⟨c, 0, none⟩), .agg #[.int .i64 x.op, .string x.key, .string x.val, .int .i64 x.num, .int .i64 x.ver], .int .i64 now] w fun e w' => ∃ kv B', e = .returned (.agg #[.int .i64 r.errno, .string r.val, .int .i64 r.num, .int .i64 r.ver, kv]) ∧ OwnC w0 w' c s' (m + 1) B' ∧ (∀ p ∈ B, p ∈ B') ∧ HeldS B' 9 1 r.keys.length kv (strs r.keys) ∧ ∃ ao ca, kv = .slice ao r.keys.length ca := by
  obtain ⟨O1, h1, h2, h3⟩ := h.2.cs
  have hg' := h.1.does x now
  have hc := cdo_all c O1 s x now w h1 (h.1.fit hm) hk hv
  rw [hr] at hc hg'
  refine hc.mono ?_
  rintro e w' ⟨kv, O', rfl, c1, g1, k1, k2⟩
  have hB : OwnC w0 w' c s' (m + 1) B := ⟨hg', ⟨O', c1, h2.trans g1, fun p hp => (g1.other (h.2.box p hp).1 (h3 p hp)).2⟩, fun p hp => ⟨(g1.other (h.2.box p hp).1 (h3 p hp)).1, (h.2.box p hp).2⟩, h.2.gl, h.2.nd⟩
  obtain ⟨ao, ca, hsh, _⟩ := (Rd.of_sl k1).shape
  obtain ⟨B', b1, b2, b3⟩ := hB.hold k1 fun k hk => ⟨by have := (k2 k hk).1; have := h2.1.size; omega, fun p hp e => by have := (k2 k hk).1; have := h.2.lt hp; omega, O', c1, h2.trans g1, fun p hp => (g1.other (h.2.box p hp).1 (h3 p hp)).2, (k2 k hk).2⟩
  exact ⟨kv, B', rfl, b1, b2, b3, ao, ca, hsh⟩
end
end Go.Proofs.YtekcjoogggoijaaGreatDoor
namespace Go.Proofs.YtekcjoogggoijaaGreatDoor
open Go.RowKit

set_option maxRecDepth 100000 in
set_option maxHeartbeats 800000 in
theorem sameItems_true (va vb : Value) (l : List It) (w : World) (ha : Rd w 4 l.length va (flat l)) (hb : Rd w 4 l.length vb (flat l)) (hl : l.length ≤ 1000000) :
    Calls Tryz.prog 15 #[va, vb] w fun e w' => e = .returned (.bool true) ∧ ∃ q, w' = w.drewN q := by
  obtain ⟨aoa, ca, hva, hca⟩ := ha.shape
  obtain ⟨aob, cb, hvb, hcb⟩ := hb.shape
  have HA := Lib.hid (fun i hi => rd_it ha hva i hi)
  have HB := Lib.hid (fun i hi => rd_it hb hvb i hi)
  subst hva hvb
  clear ha hb
  obtain ⟨n, hn⟩ : ∃ n, n = l.length := ⟨_, rfl⟩
  rw [← hn] at hl hca hcb ⊢
  have HN := Lib.hid hn
  clear hn
  go_enter Tryz.func15, Tryz.ntmps15
  go_wp2_with fail
  go_loopw [5] (fun k wr => ∃ i : Nat, i ≤ n ∧ k = .int .i64 (i : Int) ∧ ∃ q, wr = w.drewN q) (fun k _ => n - (intOf k).toNat)
  case atStart => exact ⟨0, by omega, rfl, 0, rfl⟩
  case round =>
    obtain ⟨i, hi, rfl, q, rfl⟩ := hrel
    by_cases hlt : i < n
    · obtain ⟨g, off, rfl, x0, x1, x2, x3⟩ := HA.out i (HN.out ▸ hlt)
      obtain ⟨g', off', rfl, y0, y1, y2, y3⟩ := HB.out i (HN.out ▸ hlt)
      generalize (l[i]'(HN.out ▸ hlt)) = nt at *
      go_wp2_with fail
      go_region
      go_wp2_with fail
      go_roundw
      case rel => exact ⟨i + 1, by omega, by go_num, q + 1, rfl⟩
      case measure => simp [intOf]; omega
    · go_wp2_with fail
      go_ret
      exact ⟨rfl, q, rfl⟩
end Go.Proofs.YtekcjoogggoijaaGreatDoor
