/-
  Package cache's walks, the first part: Cost, until, taking a key out of the order, del.
-/
import Derived.Test.YtekcjoogggoijaaGreatDoorCp11
import Derived.Test.YtekcjoogggoijaaGreatDoorCp09
import Derived.Test.YtekcjoogggoijaaGreatDoorShelf
import Derived.Lib.RowBridge
import Derived.BigRegion
import Derived.Deep.DeepCutAuto
set_option linter.unusedVariables false
set_option linter.unusedSimpArgs false
set_option linter.unnecessarySimpa false
namespace Go.Proofs.YtekcjoogggoijaaGreatDoor
open Go.RowKit
set_option maxRecDepth 100000

/-- Where a key is. -/
theorem look_at {U : List It} {k : ByteArray} {y : It} (h : look U k = some y) : ∃ i, ∃ hi : i < U.length, U[i] = y ∧ y.key = k ∧ ∀ (j : Nat) (hj : j < U.length), j < i → (U[j]).key ≠ k := by
  obtain ⟨hp, i, hi, he, hj⟩ := List.find?_eq_some_iff_getElem.1 h
  refine ⟨i, hi, he, by simpa using hp, fun j hjl hji e => ?_⟩
  have := hj j hji
  simp [e] at this
theorem look_not {U : List It} {k : ByteArray} (h : look U k = none) (j : Nat) (hj : j < U.length) : (U[j]).key ≠ k := by
  intro e
  have := List.find?_eq_none.1 h _ (List.getElem_mem hj)
  simp [e] at this

section
variable {w : World} {rc : Nat} {v : Value} {s : CSt}
theorem refC_at_some (h : RC w rc v s) (hn : s.U.length ≤ 1000000) {key : ByteArray} {i : Nat} (hi : i < s.U.length) (he : (s.U[i]).key = key) (hno : ∀ (j : Nat) (hj : j < s.U.length), j < i → (s.U[j]).key ≠ key) :
    Calls Tryz.prog 7 #[.pointer (some ⟨rc, 0, none⟩), .string key] w fun e w' => e = .returned (.int .i64 (i : Int)) ∧ w = w' := by
  have := refC_at key h hn i (by omega) hno (fun _ => he)
  rwa [if_pos hi] at this
theorem refC_at_none (h : RC w rc v s) (hn : s.U.length ≤ 1000000) {key : ByteArray} (hno : ∀ (j : Nat) (hj : j < s.U.length), (s.U[j]).key ≠ key) :
    Calls Tryz.prog 7 #[.pointer (some ⟨rc, 0, none⟩), .string key] w fun e w' => e = .returned (.int .i64 (-1)) ∧ w = w' := by
  have := refC_at key h hn s.U.length (Nat.le_refl _) (fun j hj _ => hno j hj) (fun hj => by omega)
  rwa [if_neg (by omega)] at this

set_option maxHeartbeats 1600000 in
/-- The last step of use: the item behind all others. -/
theorem refC_use (x : It) (h : RC w rc v s) (hn : s.U.length ≤ 900000) (hnd : (keys s.U).Nodup) :
    Calls Tryz.prog 35 #[.pointer (some ⟨rc, 0, none⟩), .agg #[.string x.key, .string x.val, .int .i64 x.ver, .int .i64 x.til]] w fun e w' => e = .returned (.tuple #[]) ∧ RStep w w' rc v { s with U := putC s.U x } := by
  obtain ⟨i0, hi0, hz0, hz1, hz2⟩ := info_parts item_info
  obtain ⟨W1, hW1⟩ : ∃ W1, W1 = w.alloc (.cells #[.string x.key, .string x.val, .int .i64 x.ver, .int .i64 x.til] 44) := ⟨_, rfl⟩
  obtain ⟨xb, hxb⟩ : ∃ xb, xb = w.heap.size := ⟨_, rfl⟩
  have kW : Kept (fun _ => False) w W1 := by rw [hW1]; exact (Kept.refl _ _).alloc _
  have hx : W1.heap[xb]? = some (.cells #[.string x.key, .string x.val, .int .i64 x.ver, .int .i64 x.til] 44 (0, 0)) := by rw [hW1, hxb]; exact heap_alloc_new _ _
  have h1 := h.kept0 kW
  have q0 := cell_at hx 0
  simp at q0
  have HX := Lib.hid hx
  have KW := Lib.hid kW
  have HNE := Lib.hid (show xb ≠ rc from fun e => by have := lt_of_block h.blk; omega)
  have H1 := Lib.hid h1
  have hne : ∀ (W2 : World) (v2 : Value) (U2 : List It), U2 = delL s.U x.key → RC W2 rc v2 { s with U := U2 } → Kept (fun k => k = rc) W1 W2 → (∀ k, v2.ownBlock = some k → v.ownBlock = some k ∨ W1.heap.size ≤ k) →
      (∀ W3 v3, Kept (fun _ => False) W2 W3 → Sl W3 44 4 (putC s.U x).length v3 (flat (putC s.U x)) → (∀ k, v3.ownBlock = some k → W2.heap.size ≤ k) → RStep w (W3.setCell ⟨rc, 1, none⟩ v3) rc v { s with U := putC s.U x }) := by
    intro W2 v2 U2 hU2 hr hk2 hv2 W3 v3 hk3 hs3 hn3
    have hst := hr.store (U' := putC s.U x) hk3 hs3 hn3
    have hst2 : RStep W2 (W3.setCell ⟨rc, 1, none⟩ v3) rc v2 { s with U := putC s.U x } := hst
    exact (hst2.trans hk2 hv2).before KW.out
  have NE := Lib.hid hne
  have LP := Lib.hid (show (putC s.U x).length = (delL s.U x.key).length + 1 by unfold putC; simp)
  have FP := Lib.hid (show flat (putC s.U x) = flat (delL s.U x.key) ++ x.cells by unfold putC; rw [flat_append]; simp [flat])
  have hdl : (delL s.U x.key).length ≤ s.U.length := List.length_filter_le _ _
  have one1 : ∀ u ∈ x.cells, u.oneCell' = true := by simp [It.cells, Value.oneCell']
  go_enter Tryz.func35, Tryz.ntmps35
  go_upto_region 1 with fail
  rw [← hW1, ← hxb]
  clear hW1 hxb kW hx h h1 hne
  rcases hl : look s.U x.key with _ | y
  case' none =>
    have AT := Lib.hid (refC_at_none H1.out (by omega) (look_not hl))
    have HD := Lib.hid (look_none_del hl)
    clear hl
    go_wp2_with fail
    refine AT.out.mono ?_
    rintro e w2 ⟨rfl, rfl⟩
    go_upto_region 4 with fail
    have FACT := Lib.hid (show ∃ v2, RC W1 rc v2 { s with U := delL s.U x.key } ∧ Kept (fun k => k = rc) W1 W1 ∧ ∀ k, v2.ownBlock = some k → v.ownBlock = some k ∨ W1.heap.size ≤ k from ⟨v, by rw [HD.out]; exact H1.out, Kept.refl _ _, fun k hk => .inl hk⟩)
    obtain ⟨W2, hW2⟩ : ∃ W2, W2 = W1 := ⟨_, rfl⟩
    rw [← hW2]
    have FACT2 := Lib.hid (show ∃ v2, RC W2 rc v2 { s with U := delL s.U x.key } ∧ Kept (fun k => k = rc) W1 W2 ∧ ∀ k, v2.ownBlock = some k → v.ownBlock = some k ∨ W1.heap.size ≤ k by rw [hW2]; exact FACT.out)
    clear FACT hW2 q0 HD
  case' some =>
    obtain ⟨i, hi, he, hy, hno⟩ := look_at hl
    have AT := Lib.hid (refC_at_some H1.out (by omega) hi (by rw [he]; exact hy) hno)
    have CUT := Lib.hid (refC_cut H1.out (by omega) i hi)
    have HD := Lib.hid (del_erase x.key s.U i y hnd (by rw [List.getElem?_eq_getElem hi, he]) hy)
    clear hl hno he hy hi
    go_wp2_with fail
    refine AT.out.mono ?_
    rintro e w2 ⟨rfl, rfl⟩
    go_wp2_with fail
    refine CUT.out.mono ?_
    rintro e W2 ⟨rfl, hst⟩
    rw [← HD.out] at hst
    have FACT2 := Lib.hid hst
    unfold RStep at FACT2
    clear hst HD
    go_upto_region 4 with fail
  all_goals
    obtain ⟨v2, hr2, hk2, hv2⟩ := FACT2.out
    have hx2 := (hk2.block xb (lt_of_block HX.out) HNE.out).trans HX.out
    have q0 := cell_at hx2 0
    have q1 := cell_at hx2 1
    have q2 := cell_at hx2 2
    have q3 := cell_at hx2 3
    simp at q0 q1 q2 q3
    have x1 := hr2.cells.2.1
    have hrow := Rd.of_sl hr2.row
    obtain ⟨ao2, ca2, rfl, _⟩ := hrow.shape
    have FIN := Lib.hid (NE.out W2 _ _ rfl hr2 hk2 hv2)
    have RD := Lib.hid (fun (W : World) (hK : Kept (fun _ => False) W2 W) => hrow.kept hK (fun _ _ h => h))
    have TH := Lib.hid (fun (W : World) (hK : Kept (fun _ => False) W2 W) => (hr2.kept0 hK).thaw 1)
    have O1 := flat_one (delL s.U x.key)
    clear hr2 hk2 hv2 hx2 hrow NE H1 KW HX
    simp only [] at x1 RD
    generalize delL s.U x.key = D at *
    obtain ⟨n2, hn2⟩ : ∃ n2, n2 = D.length := ⟨_, rfl⟩
    rw [← hn2] at x1 RD hdl LP
    clear hn2
    have b1 : n2 ≤ maxLen := by unfold maxLen; omega
    have b2 : n2 * 48 ≤ 140737488355328 := by omega
    have b3 : n2 + 1 ≤ maxLen := by unfold maxLen; omega
    have b4 : (n2 + 1) * 48 ≤ 140737488355328 := by omega
    clear hn hnd hdl
    have RN2 := Lib.hid (fun W : World => show Rd (W.alloc (.cells #[.string x.key, .string x.val, .int .i64 x.ver, .int .i64 x.til] 44)) 4 1 (.slice (some ⟨W.heap.size, 0, none⟩) 1 1) x.cells from rd_new W x.cells 44 rfl)
    have RN1 := Lib.hid (fun (W : World) (hK : Kept (fun _ => False) (W2.drew.alloc (.cells #[.string x.key, .string x.val, .int .i64 x.ver, .int .i64 x.til] 44)) W) => show Rd W 4 1 (.slice (some ⟨W2.heap.size, 0, none⟩) 1 1) x.cells from (RN2.out W2.drew).kept hK (fun _ _ h => h))
    have x1a := ((Kept.refl (fun _ => False) W2).alloc (.cells #[.string x.key, .string x.val, .int .i64 x.ver, .int .i64 x.til] 44)).cell0 x1
    go_wp2_with fail
    go_region_law (first
      | (refine step_append_new _ rfl (.const (.slice none 0 0)) (.tmp 18) 45 rfl 44 i0 _ 4 48 Tryz.underlying45 hi0 hz0 hz1 hz2 rfl (by decide) (by kernel_rfl) _ n2 (flat D) (by kernel_rfl) (RD.out _ (by first | exact (Kept.refl _ _).drew | exact ((Kept.refl _ _).drew).alloc _)) O1 b1 b2 ?_; intro ao3 cap3 w3 h1 h2 h3; have K3 := Lib.hid (show Kept (fun _ => False) W2 w3 from (by first | exact ((Kept.refl (fun _ => False) W2).drew).trans h2 (fun _ _ h => h) | exact (((Kept.refl (fun _ => False) W2).drew).alloc _).trans h2 (fun _ _ h => h))); have S3 := Lib.hid h1; have N3 := Lib.hid h3; have H2 := Lib.hid h2; have x1b := K3.out.cell0 x1; have q0b := K3.out.cell0 q0; have q1b := K3.out.cell0 q1; have q2b := K3.out.cell0 q2; have q3b := K3.out.cell0 q3; clear h1 h2 h3)
      | (refine step_append_any _ rfl (.tmp 19) (.tmp 21) 45 rfl 44 i0 _ 4 48 Tryz.underlying45 hi0 hz0 hz1 hz2 rfl (by decide) (.slice ao3 n2 cap3) n2 (flat D) (by kernel_rfl) (by first | exact S3.out | exact S3.out.alloc _) _ 1 x.cells (by kernel_rfl) (by first | exact RN1.out _ H2.out | exact RN2.out _) one1 b3 b4 ?_; intro ao4 cap4 w4 h1 h2 h3; have K4 := Lib.hid (show Kept (fun _ => False) W2 w4 from (by first | exact K3.out.trans h2 (fun k hk e => by have := N3.out k e; simp at this; omega) | exact (K3.out.alloc _).trans h2 (fun k hk e => by have := N3.out k e; simp at this; omega))); have S4 := Lib.hid h1; have N4 := Lib.hid (show ∀ j, (Value.slice ao4 (n2 + 1) cap4).ownBlock = some j → W2.heap.size ≤ j from fun j hj => (h3 j hj).elim (fun e => by have := N3.out j e; simp at this; omega) (fun e => by have := K3.out.size; first | omega | (simp at e; omega))); have f4 := TH.out _ K4.out; have x1c := K4.out.cell0 x1; clear h1 h2 h3))
    all_goals
      go_wp2_with fail
      go_end0
      refine ⟨rfl, FIN.out _ _ K4.out ?_ N4.out⟩
      rw [LP.out, FP.out]
      exact S4.out
end
end Go.Proofs.YtekcjoogggoijaaGreatDoor
namespace Go.Proofs.YtekcjoogggoijaaGreatDoor
open Go.RowKit
set_option maxRecDepth 100000

theorem cost_any (x : It) (w : World) (hk : x.key.size ≤ 1000000000) (hv : x.val.size ≤ 1000000000) :
    Calls Tryz.prog 23 #[.agg #[.string x.key, .string x.val, .int .i64 x.ver, .int .i64 x.til]] w fun e w' => e = .returned (.int .i64 (costI x)) ∧ Kept (fun _ => False) w w' := by
  have hc : 16 + (x.key.size : Int) + (x.val.size : Int) = costI x := rfl
  have HC := Lib.hid hc
  clear hc
  go_enter Tryz.func23, Tryz.ntmps23
  go_wp2_with fail
  go_ret
  exact ⟨by rw [← HC.out]; rfl, (Kept.refl _ w).alloc _⟩

theorem until_any (n now : Int) (w : World) (hn0 : -1000000000000 ≤ n) (hn1 : n ≤ 1000000000000) (h0 : 0 ≤ now) (h1 : now ≤ 1000000000000) :
    Calls Tryz.prog 79 #[.int .i64 n, .int .i64 now] w fun e w' => e = .returned (.int .i64 (untilC n now)) ∧ w = w' := by
  by_cases hz : n = 0
  · have hc : untilC n now = 0 := if_pos hz
    rw [hc]
    subst hz
    go_enter Tryz.func79, Tryz.ntmps79
    go_wp2_with fail
    go_ret
    exact ⟨rfl, rfl⟩
  · have hc : untilC n now = now + n := if_neg hz
    rw [hc]
    have hz' : (n == 0) = false := by simpa using hz
    go_enter Tryz.func79, Tryz.ntmps79
    go_wp2_with fail
    go_ret
    exact ⟨rfl, rfl⟩

/-- 'del$1': is it the key? -/
theorem is_key (x key : ByteArray) (pl : Nat) (w : World) (hp : w.cell? ⟨pl, 0, none⟩ = some (.string key)) :
    Calls Tryz.prog 102 #[.string x, .pointer (some ⟨pl, 0, none⟩)] w fun e w' => e = .returned (.bool (decide (x = key))) ∧ ∃ q, w' = w.drewN q := by
  go_enter Tryz.func102, Tryz.ntmps102
  go_wp2_with fail
  go_ret
  exact ⟨congrArg (fun b => Ending.returned (.bool b)) (bytes_beq _ _), 0, rfl⟩

/-- slices.DeleteFunc with it. -/
def Struck (w : World) (v : Value) (K : List ByteArray) (key : ByteArray) (e : Ending) (w' : World) : Prop :=
  ∃ v', e = .returned v' ∧ Sl w' 9 1 (K.filter (fun x => decide (x ≠ key))).length v' (strs (K.filter (fun x => decide (x ≠ key)))) ∧ Kept (fun k => v.ownBlock = some k) w w' ∧ ∀ k, v'.ownBlock = some k → v.ownBlock = some k

theorem put_world {w : World} {blk off q : Nat} {d : Array ByteArray} {ys : List ByteArray} (hH : Go.Sort.Holds Value.string w blk off d) (h : ys.length = d.size) : Go.Sort.putRow Value.string (Go.Sort.ahead w q) blk off ys.toArray = (w.drewN q).setCells blk off (strs ys) :=
  Go.Lib.putRow_eq_setCells Value.string w blk off d ys q hH h

theorem strike_key (v : Value) (K : List ByteArray) (pl : Nat) (key : ByteArray) (w : World) (h : Sl w 9 1 K.length v (strs K)) (hK : K.length ≤ 1000000) (hp : w.cell? ⟨pl, 0, none⟩ = some (.string key)) (hpl : v.ownBlock ≠ some pl) :
    Calls Tryz.prog 101 #[v, .func (.func 102) #[] #[.pointer (some ⟨pl, 0, none⟩)]] w (Struck w v K key) := by
  have hplt := World.block_lt_of_cell? w ⟨pl, 0, none⟩ hp
  rcases h.form with ⟨rfl, h0, h00⟩ | ⟨g, off, cap, rfl, hc, hlt⟩
  · obtain rfl : K = [] := List.eq_nil_of_length_eq_zero h0
    have FIN : Hid (Struck w (.slice none 0 0) [] key (.returned (.slice none 0 0)) w) := Lib.hid ⟨_, rfl, h, Kept.refl _ _, fun _ hk => hk⟩
    clear h
    go_enter Tryz.func101, Tryz.ntmps101
    go_wp2_with fail
    refine (Tryz.slices_IndexFunc_empty (α := ByteArray) none 0 _ w).mono ?_
    rintro e w1 ⟨rfl, hw⟩
    subst hw
    go_wp2_with fail
    go_ret
    exact FIN.out
  · have hgp : g ≠ pl := fun e => hpl (by rw [e]; rfl)
    have hs := h.cell rfl
    have hH : Go.Sort.Holds Value.string w g off K.toArray := by
      intro j hj
      have hj' : j < K.length := by simpa using hj
      have h1 := hs j (.string K[j]) (by simp [strs, List.getElem?_eq_getElem hj'])
      rw [Addr.add_lit] at h1
      refine ⟨?_, ?_⟩
      · rw [h1]
        simp [hj']
      · rcases h.2 with ⟨hv, _⟩ | ⟨g', off', cap', cur, hv, hg, _⟩
        · cases hv
        · injection hv with h2
          injection h2 with h2
          injection h2 with h3 h4
          subst h3 h4
          exact frozen_at hg _
    have hpa : PredAt Tryz.prog 102 #[.pointer (some ⟨pl, 0, none⟩)] Value.string (fun x => decide (x = key)) w :=
      fun W x hb => is_key x key pl W ((hb.cell (p := ⟨pl, 0, none⟩) hplt).trans hp)
    have hpo : PredOver Tryz.prog 102 #[.pointer (some ⟨pl, 0, none⟩)] Value.string (fun x => decide (x = key)) g off K.toArray.size w := by
      intro n os dk x hdk
      refine is_key x key pl _ ?_
      unfold sortWorld
      rw [show dk = dk.toList.toArray by simp, put_world hH (by simpa using hdk)]
      have h1 : Kept (fun k => k = g) w (Go.Sort.grow ((w.drewN n).setCells g off (strs dk.toList)) os) := (((Kept.refl _ w).drewN n).trans (setCells_kept _ g off _) (fun _ _ h => h)).trans (grow_kept _ _) (fun _ _ h => h.elim)
      exact (h1.cell (p := ⟨pl, 0, none⟩) hplt (fun e => hgp e.symm)).trans hp
    have hd := Tryz.slices_DeleteFunc Value.string (fun _ => rfl) (fun x => decide (x = key)) 102 #[.pointer (some ⟨pl, 0, none⟩)] (enters_of Tryz.func102 (by kernel_rfl) rfl) ByteArray.empty (fun w => by kernel_rfl) g off cap K.toArray w hpa hpo hH (by simp; omega) (by simpa using hc)
    simp only [List.size_toArray] at hd
    refine hd.mono ?_
    rintro e w' ⟨rfl, q, rfl⟩
    have hf : (K.filter fun x => !decide (x = key)) = K.filter (fun x => decide (x ≠ key)) := by
      apply List.filter_congr
      intro x _
      simp
    unfold Struck
    rw [hf]
    have hle : (K.filter (fun x => decide (x ≠ key))).length ≤ K.length := List.length_filter_le _ _
    generalize K.filter (fun x => decide (x ≠ key)) = K' at *
    rw [put_world hH (by simp; omega)]
    refine ⟨_, rfl, ?_, ((Kept.refl _ w).drewN q).trans (setCells_kept _ g off _) (fun i _ e => by rw [e]; rfl), fun k hk => hk⟩
    have h1 := (h.drew.fill (w := w.drewN q) (ys := strs (K' ++ List.replicate (K.length - K'.length) ByteArray.empty)) (by rw [strs_length, List.length_append, List.length_replicate]; omega))
    have h2 := h1.cut rfl 0 K'.length (Nat.zero_le _) hle
    simp only [Nat.zero_mul, Nat.add_zero, Nat.sub_zero, List.drop_zero, Nat.mul_one] at h2
    have h3 : (strs (K' ++ List.replicate (K.length - K'.length) ByteArray.empty)).take K'.length = strs K' := by
      unfold strs
      rw [List.map_append, List.take_left' (by simp)]
    rw [h3] at h2
    exact h2
end Go.Proofs.YtekcjoogggoijaaGreatDoor
