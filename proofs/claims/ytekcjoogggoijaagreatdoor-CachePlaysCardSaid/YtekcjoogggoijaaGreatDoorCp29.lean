/-
  Package cache's walks: scan.
-/
import Derived.Test.YtekcjoogggoijaaGreatDoorCp21
set_option linter.unusedVariables false
set_option linter.unusedSimpArgs false
set_option linter.unnecessarySimpa false
namespace Go.Proofs.YtekcjoogggoijaaGreatDoor
open Go.RowKit
set_option maxRecDepth 100000

/-- Some of the keys, so many at most. -/
def someL (p : ByteArray → Bool) (n : Nat) (ks : List ByteArray) : List ByteArray := (ks.filter p).take n
theorem someL_succ (p : ByteArray → Bool) (n : Nat) (ks : List ByteArray) {i : Nat} (hi : i < ks.length) :
    someL p n (ks.take (i + 1)) = if p ks[i] = true ∧ (someL p n (ks.take i)).length < n then someL p n (ks.take i) ++ [ks[i]] else someL p n (ks.take i) := by
  unfold someL
  rw [List.take_succ_eq_append_getElem hi, List.filter_append]
  by_cases hp : p ks[i] = true
  · rw [List.filter_cons_of_pos hp, List.filter_nil]
    generalize (ks.take i).filter p = l
    by_cases hn : (l.take n).length < n
    · rw [if_pos ⟨hp, hn⟩]
      rw [List.length_take] at hn
      rw [List.take_of_length_le (by rw [List.length_append, List.length_singleton]; omega), List.take_of_length_le (by omega)]
    · rw [if_neg (fun h => hn h.2)]
      rw [List.length_take] at hn
      rw [List.take_append_of_le_length (by omega)]
  · rw [List.filter_cons_of_neg hp, List.filter_nil, List.append_nil, if_neg (fun h => hp h.1)]

theorem blt_true {x y : ByteArray} (h : bltB x y = true) : Op.bytesLess y.toList x.toList = false ∧ (y.toList == x.toList) = false := by
  unfold bltB at h
  have h1 := of_decide_eq_true h
  rw [ByteArray.toList_eq, ByteArray.toList_eq]
  refine ⟨by rw [bytesLess_eq]; exact decide_eq_false (fun h2 => List.lt_asymm h1 h2), beq_eq_false_iff_ne.2 fun h2 => ?_⟩
  rw [h2] at h1
  exact List.lt_irrefl _ h1
theorem blt_false {x y : ByteArray} (h : bltB x y = false) : Op.bytesLess y.toList x.toList = true ∨ (Op.bytesLess y.toList x.toList = false ∧ (y.toList == x.toList) = true) := by
  unfold bltB at h
  have h1 := of_decide_eq_false h
  rw [ByteArray.toList_eq, ByteArray.toList_eq, bytesLess_eq]
  by_cases h2 : y.data.toList < x.data.toList
  · exact .inl (decide_eq_true h2)
  · exact .inr ⟨decide_eq_false h2, by rw [List.le_antisymm (List.not_lt.1 h1) (List.not_lt.1 h2)]; exact beq_self_eq_true _⟩
theorem someL_zero (p : ByteArray → Bool) (n : Nat) (ks : List ByteArray) : someL p n (ks.take 0) = [] := by unfold someL; rw [List.take_zero, List.filter_nil, List.take_nil]
theorem someL_len (p : ByteArray → Bool) (n : Nat) (ks : List ByteArray) : (someL p n ks).length ≤ n := by unfold someL; rw [List.length_take]; omega

/-- A reply whose keys lie in a slice of their own. -/
def KSaid (w : World) (c : Nat) (O : Nat → Prop) (s : CSt) (r : Rp) (e : Ending) (w' : World) : Prop :=
  ∃ kv O', e = .returned (rpV r kv) ∧ CS w' c O' s ∧ Grew O w O' w' ∧ Sl w' 9 1 r.keys.length kv (strs r.keys) ∧ ∀ k, kv.ownBlock = some k → w.heap.size ≤ k ∧ ¬ O' k
theorem KSaid.of_steps {w w' : World} {c : Nat} {O : Nat → Prop} {s : CSt} {r : Rp} (hr : r.keys = []) (h : Steps w c O s w') : KSaid w c O s r (.returned (rpV r (.slice none 0 0))) w' := by
  obtain ⟨O', h1, h2⟩ := h
  exact ⟨_, O', rfl, h1, h2, by rw [hr]; exact Sl.nil _ _ _, fun k hk => by cases hk⟩
section
variable {w0 wr w' : World} {c : Nat} {O0 : Nat → Prop} {s : CSt} {B : List (Nat × Obj)}
theorem Bes.keys (h : Bes w0 c O0 s B wr) : ∃ bt, wr.cell? ⟨c, 1, none⟩ = some (.pointer (some ⟨bt, 0, none⟩)) ∧ ∀ W : World, Kept (fun _ => False) wr W → Calls Tryz.prog 40 #[.pointer (some ⟨bt, 0, none⟩)] W (KeysSaid W s.U) := by
  obtain ⟨O', h1, _⟩ := h.cs
  obtain ⟨bt, t1, _, hk, _⟩ := cs_open h1
  exact ⟨bt, t1, hk⟩
/-- The end of scan: the keys' slice stays as the box is written. -/
theorem Bes.retK {rb : Nat} {v : Value} {ks : List ByteArray} {w1 : World} (h : Bes w0 c O0 s ((rb, zRp) :: B) w1) (hs : Strs w1 wr v ks) : ∀ r : Rp, r.keys = ks → (over5 wr rb r v).heap[rb]? = some (rpO r v) ∧ KSaid w0 c O0 s r (.returned (rpV r v)) (over5 wr rb r v) := by
  intro r hr
  subst hr
  have h0 := h.kept0 hs.2.1
  have h1 := h0.ret r v
  refine ⟨h1.1, ?_⟩
  obtain ⟨O', c1, c2, c3⟩ := h1.2.cs
  obtain ⟨O1, d1, d2, d3⟩ := h.cs
  have hrb := h.lt (p := (rb, zRp)) (.head _)
  simp only at hrb
  have hk := over5_kept wr rb r v
  refine ⟨v, O1, rfl, (d1.kept0 hs.2.1).kept hk (fun k hO e => d3 (rb, zRp) (.head _) (e ▸ hO)) (fun k hg e => by have := h.gl k hg; have := (h.box (rb, zRp) (.head _)).2; simp only at this; omega), (d2.kept hs.2.1).keptT hk (fun i hi e => by have := (h.box (rb, zRp) (.head _)).2; simp only at this; omega), hs.1.kept hk (fun k e e2 => by have := hs.2.2 k e; omega), fun k e => ?_⟩
  have h3 := hs.2.2 k e
  have h4 := h.size
  exact ⟨by omega, fun hO => by have := d1.lt hO; omega⟩
end

set_option maxHeartbeats 16000000 in
theorem cscan (c : Nat) (O : Nat → Prop) (s : CSt) (x : Cm) (w : World) (h : CS w c O s) (hl : s.U.length ≤ 200000) (hn1 : x.num ≤ 1000000000000) :
    Calls Tryz.prog 28 #[.pointer (some ⟨c, 0, none⟩), .agg #[.int .i64 x.op, .string x.key, .string x.val, .int .i64 x.num, .int .i64 x.ver]] w (KSaid w c O s (scanC s x).1) := by
  have hE := two_boxes h (cmO x) (rpO (Rp.err 1) (.slice none 0 0))
  have HE := Lib.hid (show ((w.alloc (cmO x)).alloc (rpO (Rp.err 1) (.slice none 0 0))).heap[w.heap.size + 1]? = some (rpO (Rp.err 1) (.slice none 0 0)) ∧ Steps w c O s ((w.alloc (cmO x)).alloc (rpO (Rp.err 1) (.slice none 0 0))) from ⟨(hE.box (_, _) (.head _)).1, hE.steps⟩)
  clear hE
  have hB := two_boxes h (cmO x) zRp
  obtain ⟨rb, hrb⟩ : ∃ rb, rb = w.heap.size + 1 := ⟨_, rfl⟩
  obtain ⟨xb, hxb⟩ : ∃ xb, xb = w.heap.size := ⟨_, rfl⟩
  obtain ⟨W0, hW0⟩ : ∃ W0, W0 = (w.alloc (cmO x)).alloc zRp := ⟨_, rfl⟩
  rw [← hrb, ← hxb, ← hW0] at hB
  obtain ⟨bt, t1, hks⟩ := hB.keys
  have KS := Lib.hid (hks W0 (Kept.refl _ _))
  have ht1 : w.cell? ⟨c, 1, none⟩ = some (.pointer (some ⟨bt, 0, none⟩)) := by
    obtain ⟨bt', t1', _⟩ := cs_open h
    have hk : Kept (fun _ => False) w W0 := hW0 ▸ ((Kept.refl _ w).alloc _).alloc _
    rw [hk.cell0 t1'] at t1
    rw [t1', t1]
  have hcl : c < w.heap.size := by obtain ⟨_, _, _, _, _, _, _, hc, _⟩ := cs_cells h; exact hc
  obtain ⟨_, _, _, _, _, _, _, kc⟩ := hB.cells
  have CM := Lib.hid (fun (W : World) (hk : Kept (fun _ => False) W0 W) => cm_facts ((hB.kept0 hk).box (xb, cmO x) (.tail _ (.head _))).1)
  have ZF := Lib.hid (fun (W : World) (hk : Kept (fun _ => False) W0 W) => z_facts ((hB.kept0 hk).box (rb, zRp) (.head _)).1)
  obtain ⟨m0, m1, m2, m3, m4, m5⟩ := CM.out W0 (Kept.refl _ _)
  obtain ⟨z0, z1, z2, z3, z4, y0, y1, y2, y3, y4, y5⟩ := ZF.out W0 (Kept.refl _ _)
  have HB := Lib.hid hB
  have HW0 := Lib.hid hW0
  have HRB := Lib.hid hrb
  have HXB := Lib.hid hxb
  clear h hB hW0 hrb hxb hks
  have enter : ∀ r : Rp, (scanC s x).1 = r → KSaid w c O s r = KSaid w c O s (scanC s x).1 := fun r hr => by rw [hr]
  by_cases h1 : x.num < 1
  · have HS := Lib.hid (show (scanC s x).1 = Rp.err 1 by unfold scanC; rw [if_pos (.inl h1)])
    clear HB KS
    go_enter Tryz.func28, Tryz.ntmps28
    go_wp2_with fail
    (try simp only [Exit.inBlock, Exit.then])
    refine bodyPost_ret (results_cell_row rfl _ _ (w.heap.size + 1) _ _ _ _ rfl HE.out.1 Tryz.underlying51 rfl rp_size) rfl ?_
    rw [HS.out]
    exact KSaid.of_steps rfl HE.out.2
  by_cases h2 : 40 < x.num
  · have HS := Lib.hid (show (scanC s x).1 = Rp.err 1 by unfold scanC; rw [if_pos (.inr h2)])
    clear HB KS
    go_enter Tryz.func28, Tryz.ntmps28
    go_wp2_with fail
    (try simp only [Exit.inBlock, Exit.then])
    refine bodyPost_ret (results_cell_row rfl _ _ (w.heap.size + 1) _ _ _ _ rfl HE.out.1 Tryz.underlying51 rfl rp_size) rfl ?_
    rw [HS.out]
    exact KSaid.of_steps rfl HE.out.2
  have HS := Lib.hid (show (scanC s x).1 = ⟨0, ⟨#[]⟩, 0, 0, someL (fun k => Lib.hasPrefix k.data.toList x.key.data.toList && bltB x.val k) x.num.toNat (sortB (keys s.U))⟩ by unfold scanC; rw [if_neg (fun h => h.elim h1 h2)]; rfl)
  have hlen : (sortB (keys s.U)).length = s.U.length := by unfold keys; rw [sortB_length, List.length_map]
  have KS2 := Lib.hid (show Calls Tryz.prog 40 #[.pointer (some ⟨bt, 0, none⟩)] W0 (fun e w' => ∃ v, e = .returned v ∧ Strs W0 w' v (sortB (keys s.U))) from KS.out)
  clear KS
  generalize sortB (keys s.U) = ks at *
  obtain ⟨n, hn⟩ : ∃ n, n = s.U.length := ⟨_, rfl⟩
  rw [← hn] at hl hlen
  clear hn
  have HL := Lib.hid hlen
  go_enter Tryz.func28, Tryz.ntmps28
  go_wp2_with fail
  rw [← HRB.out, ← HXB.out, ← show W0 = (w.alloc (.cells #[.int .i64 x.op, .string x.key, .string x.val, .int .i64 x.num, .int .i64 x.ver] 39)).alloc (.cells #[.int .i64 0, .string { data := #[] }, .int .i64 0, .int .i64 0, .slice none 0 0] 51) from HW0.out]
  clear HW0 HRB HXB ht1 hcl HE
  refine KS2.out.mono ?_
  rintro e w1 ⟨kv, rfl, hst⟩
  obtain ⟨ao, ca, rfl, hca⟩ := (Rd.of_sl hst.1).shape
  have HB1 := Lib.hid (HB.out.kept0 hst.2.1)
  have HK1 := Lib.hid hst.2.1
  rw [hlen] at hca ⊢
  have HKS := Lib.hid (by have h := hst.1; rw [hlen] at h; exact h)
  obtain ⟨m0, m1, m2, m3, m4, m5⟩ := CM.out w1 hst.2.1
  have HCM := Lib.hid (fun (W : World) (hk : Kept (fun _ => False) w1 W) => CM.out W (HK1.out.trans hk (fun _ _ h => h)))
  have HZF := Lib.hid (fun (W : World) (hk : Kept (fun _ => False) w1 W) => ZF.out W (HK1.out.trans hk (fun _ _ h => h)))
  have SUCC := Lib.hid (fun i (hi : i < ks.length) => someL_succ (fun k => Lib.hasPrefix k.data.toList x.key.data.toList && bltB x.val k) x.num.toNat ks hi)
  have HPF := Lib.hid (fun (a b : ByteArray) (W : World) => Tryz.strings_HasPrefix a b W)
  obtain ⟨i0, hi0, hz0, hz1, hz2⟩ := info_parts str_info
  clear hst t1 hlen z0 z1 z2 z3 z4 y0 y1 y2 y3 y4 y5 KS2 HB CM ZF HK1
  go_wp2_with fail
  clear m0 m1 m2 m3 m4 m5
  go_loopg [5, 23] n (fun gk out k wr => ∃ i : Nat, i + gk = n ∧ k = .int .i64 (i : Int) ∧ Strs w1 wr out (someL (fun k => Lib.hasPrefix k.data.toList x.key.data.toList && bltB x.val k) x.num.toNat (ks.take i)))
  case atStart => exact ⟨0, by omega, rfl, by rw [show someL (fun k => Lib.hasPrefix k.data.toList x.key.data.toList && bltB x.val k) x.num.toNat (ks.take 0) = [] from someL_zero _ _ _]; exact Strs.nil (Kept.refl _ _)⟩
  case round =>
    obtain ⟨i, hi', rfl, hj⟩ := hrel
    obtain ⟨m0, m1, m2, m3, m4, m5⟩ := HCM.out wr hj.2.1
    by_cases hlt : i < n
    · have hik : i < ks.length := by rw [HL.out]; exact hlt
      obtain ⟨g, off, rfl, x0⟩ := rd_str (Rd.of_sl (by have := HKS.out.kept hj.2.1 (fun _ _ h => h); rw [← HL.out] at this; rwa [show ks.map Value.string = strs ks from rfl])) i hik
      have SC := Lib.hid (SUCC.out i hik)
      obtain ⟨aoo, cao, rfl, hcao⟩ := (Rd.of_sl hj.1).shape
      have hsl := hj.1
      have hol := someL_len (fun k => Lib.hasPrefix k.data.toList x.key.data.toList && bltB x.val k) x.num.toNat (ks.take i)
      have HJ := Lib.hid hj
      clear hj
      generalize (ks[i]'hik) = key at *
      generalize someL (fun k => Lib.hasPrefix k.data.toList x.key.data.toList && bltB x.val k) x.num.toNat (ks.take i) = os at *
      generalize hnx : someL (fun k => Lib.hasPrefix k.data.toList x.key.data.toList && bltB x.val k) x.num.toNat (ks.take (i + 1)) = nx at *
      have HNX := Lib.hid hnx
      clear hnx
      go_wp2_with fail
      refine (HPF.out _ _ _).mono ?_
      rintro e w3 ⟨rfl, rfl⟩
      generalize Lib.hasPrefix key.data.toList x.key.data.toList = hp at *
      cases hp with
      | false =>
        have HN := Lib.hid (SC.out.trans (if_neg (fun h => by simp at h)))
        go_wp2_with fail
        go_roundg (gk - 1)
        case measure => omega
        case rel => exact ⟨i + 1, by omega, by go_num, by rw [HNX.out, HN.out]; exact HJ.out⟩
      | true =>
        cases hb : bltB x.val key with
        | false =>
          have HN := Lib.hid (SC.out.trans (if_neg (fun h => by rw [hb] at h; simp at h)))
          rcases blt_false hb with l1 | ⟨l1, l2⟩
          · go_wp2_with fail
            go_roundg (gk - 1)
            case measure => omega
            case rel => exact ⟨i + 1, by omega, by go_num, by rw [HNX.out, HN.out]; exact HJ.out⟩
          · go_wp2_with fail
            go_roundg (gk - 1)
            case measure => omega
            case rel => exact ⟨i + 1, by omega, by go_num, by rw [HNX.out, HN.out]; exact HJ.out⟩
        | true =>
          obtain ⟨l1, l2⟩ := blt_true hb
          by_cases hfull : (os.length : Int) < x.num
          · have HN := Lib.hid (SC.out.trans (if_pos ⟨by rw [hb]; rfl, by omega⟩))
            have APP := Lib.hid (fun (W w2 : World) (g off cap : Nat) (hk : Kept (fun _ => False) w3 W) h1 h2 h3 => (HJ.out.kept hk).push (g := g) (off := off) (cap := cap) (k := key) (w2 := w2) h1 h2 h3)
            have b1 : os.length + 1 ≤ maxLen := by unfold maxLen; omega
            have b2 : (os.length + 1) * 16 ≤ 140737488355328 := by omega
            have hone : ∀ u ∈ [Value.string key], u.oneCell' = true := by simp [Value.oneCell']
            clear hb
            go_wp2_with (at_builtin; refine wpList_append_sl _ rfl (.tmp 44) (.tmp 46) 49 rfl 9 i0 _ 1 16 Tryz.underlying49 hi0 hz0 hz1 hz2 rfl (by decide) _ os.length (strs os) rfl (hsl.kept ((Kept.refl (fun _ => False) w3).alloc _) (fun _ _ h => h)) ⟨w3.heap.size, 0, none⟩ 1 1 [.string key] rfl rfl (cells_new _ _ _ _) hone (by omega) b1 b2 ?_; intro g4 off4 cap w2 h1 h2 h3; have FINQ := Lib.hid (APP.out _ w2 g4 off4 cap ((Kept.refl (fun _ => False) w3).alloc _) h1 h2 h3); clear h1 h2 h3)
            go_roundg (gk - 1)
            case measure => omega
            case rel => exact ⟨i + 1, by omega, by go_num, by rw [HNX.out, HN.out]; exact FINQ.out⟩
          · have HN := Lib.hid (SC.out.trans (if_neg (fun h => by omega)))
            go_wp2_with fail
            go_roundg (gk - 1)
            case measure => omega
            case rel => exact ⟨i + 1, by omega, by go_num, by rw [HNX.out, HN.out]; exact HJ.out⟩
    · obtain rfl : i = n := by omega
      rw [List.take_of_length_le (by rw [HL.out]; exact Nat.le_refl _)] at hj
      obtain ⟨z0, z1, z2, z3, z4, y0, y1, y2, y3, y4, y5⟩ := HZF.out wr hj.2.1
      obtain ⟨aoo, cao, rfl, hcao⟩ := (Rd.of_sl hj.1).shape
      have RET := Lib.hid (HB1.out.retK hj ⟨0, ⟨#[]⟩, 0, 0, someL (fun k => Lib.hasPrefix k.data.toList x.key.data.toList && bltB x.val k) x.num.toNat ks⟩ rfl)
      clear hj
      generalize someL (fun k => Lib.hasPrefix k.data.toList x.key.data.toList && bltB x.val k) x.num.toNat ks = os at *
      go_wp2_with fail
      (try simp only [Exit.inBlock, Exit.then])
      refine bodyPost_ret (results_cell_row rfl _ _ rb _ _ _ _ rfl RET.out.1 Tryz.underlying51 rfl rp_size) rfl ?_
      rw [HS.out]
      exact RET.out.2
end Go.Proofs.YtekcjoogggoijaaGreatDoor
