/-
  A cache of a law's own, and a slice beside it that grows.
-/
import Derived.Test.YtekcjoogggoijaaGreatDoorCp27
import Derived.Test.YtekcjoogggoijaaGreatDoorCp28
import Derived.Test.YtekcjoogggoijaaGreatDoorCp30
import Derived.Test.YtekcjoogggoijaaGreatDoorCp31
import Derived.Test.YtekcjoogggoijaaGreatDoorCp32
import Derived.Test.YtekcjoogggoijaaGreatDoorCp24
import Derived.Test.YtekcjoogggoijaaGreatDoorCp12
import Derived.Test.YtekcjoogggoijaaGreatDoorCp14
import Derived.Test.YtekcjoogggoijaaGreatDoorCp16
import Derived.Test.YtekcjoogggoijaaGreatDoorCp15
import Derived.Test.YtekcjoogggoijaaGreatDoorCp23
import Derived.Test.YtekcjoogggoijaaGreatDoorCp25
set_option linter.unusedVariables false
set_option linter.unusedSimpArgs false
set_option linter.unnecessarySimpa false
namespace Go.Proofs.YtekcjoogggoijaaGreatDoor
open Go.RowKit
set_option maxRecDepth 100000

theorem refDo_all {rc : Nat} {v : Value} (s : CSt) (x : Cm) (now : Int) (w : World) (h : RC w rc v s) (hf : FitC s) (hnd : (keys s.U).Nodup) (hk : x.key.size ≤ 1000000000) (hv : x.val.size ≤ 1000000000) :
    Calls Tryz.prog 9 #[.pointer (some ⟨rc, 0, none⟩), .agg #[.int .i64 x.op, .string x.key, .string x.val, .int .i64 x.num, .int .i64 x.ver], .int .i64 now] w (RDo w rc v (doC s x now)) := by
  by_cases hbad : ¬ rightC x ∨ now < 0 ∨ 1000000000000 < now
  · exact refDo_err s x now w h hk hv hbad
  · have hr : rightC x := Decidable.byContradiction fun e => hbad (.inl e)
    have n0 : 0 ≤ now := by
      rcases Int.lt_or_le now 0 with e | e
      · exact absurd (.inr (.inl e)) hbad
      · exact e
    have n1 : now ≤ 1000000000000 := by
      rcases Int.lt_or_le 1000000000000 now with e | e
      · exact absurd (.inr (.inr e)) hbad
      · exact e
    obtain ⟨op, key, val, num, ver⟩ := x
    have ho : 1 ≤ op ∧ op ≤ 13 := ⟨hr.1, hr.2.1⟩
    rcases (show (op = 2 ∨ op = 3 ∨ op = 4 ∨ op = 6) ∨ (op = 1 ∨ op = 5 ∨ op = 9 ∨ op = 10) ∨ (op = 7 ∨ op = 8) ∨ (op = 12 ∨ op = 13) ∨ op = 11 by omega) with ho | ho | ho | ho | ho
    · exact refDo_sets s op key val num ver now w h hf hnd hr n0 n1 ho
    · exact refDo_items s op key val num ver now w h hf hnd hr n0 n1 ho
    · exact refDo_counts s op key val num ver now w h hf hnd hr n0 n1 ho
    · exact refDo_lists s op key val num ver now w h hf hnd hr n0 n1 ho
    · exact refDo_scan s op key val num ver now w h hf hnd hr n0 n1 ho

theorem refCaches (budget : Int) (w : World) (h0 : -9223372036854775808 ≤ budget) (h1 : budget ≤ 9223372036854775807) :
    Calls Tryz.prog 6 #[.int .i64 budget] w fun e w' => ∃ rc, e = .returned (.pointer (some ⟨rc, 0, none⟩)) ∧ RC w' rc (.slice none 0 0) (newC budget) ∧ Kept (fun _ => False) w w' ∧ w.heap.size ≤ rc := by
  have HN := Lib.hid (show newC budget = ⟨min (max budget 0) 1000000, [], 0, 0⟩ from rfl)
  go_enter Tryz.func6, Tryz.ntmps6
  go_wp2_with fail
  go_ret
  refine ⟨_, rfl, ?_, (Kept.refl _ w).alloc _, Nat.le_refl _⟩
  rw [HN.out]
  exact ⟨heap_alloc_new _ _, Sl.nil _ _ _, fun e => by cases e⟩
end Go.Proofs.YtekcjoogggoijaaGreatDoor
namespace Go.Proofs.YtekcjoogggoijaaGreatDoor
open Go.RowKit
set_option maxRecDepth 100000

set_option maxHeartbeats 4000000 in
theorem order_any {w : World} {rc : Nat} {v : Value} {s : CSt} (h : RC w rc v s) (hn : s.U.length ≤ 1000000) :
    Calls Tryz.prog 18 #[.pointer (some ⟨rc, 0, none⟩)] w fun e w' => ∃ u, e = .returned u ∧ Strs w w' u (keys s.U) := by
  obtain ⟨i0, hi0, hz0, hz1, hz2⟩ := info_parts str_info
  have k0 := h.cells.2.1
  obtain ⟨ao, ca, rfl, hca⟩ := (Rd.of_sl h.row).shape
  have HR := Lib.hid (fun (W : World) (hk : Kept (fun _ => False) w W) j hj => rd_it ((Rd.of_sl h.row).kept hk (fun _ _ h => h)) rfl j hj)
  clear h
  generalize s.U = U at *
  obtain ⟨n, hnn⟩ : ∃ n, n = U.length := ⟨_, rfl⟩
  rw [← hnn] at hn hca k0
  have HN := Lib.hid hnn
  clear hnn
  go_enter Tryz.func18, Tryz.ntmps18
  go_wp2_with fail
  go_loopg [3, 4] n (fun gk u k wr => ∃ i : Nat, i + gk = n ∧ k = .int .i64 (i : Int) ∧ Strs w wr u (keys (U.take i)))
  case atStart => exact ⟨0, by omega, rfl, Strs.nil (Kept.refl _ _)⟩
  case round =>
    obtain ⟨i, hi, rfl, hst⟩ := hrel
    have k1 := hst.2.1.cell0 k0
    by_cases hin : i < n
    · have hil : i < U.length := HN.out ▸ hin
      obtain ⟨g, off, rfl, x0, _, _, _⟩ := HR.out wr hst.2.1 i hil
      have NX := Lib.hid (show keys (U.take (i + 1)) = keys (U.take i) ++ [(U[i]'hil).key] by unfold keys; rw [List.take_succ_eq_append_getElem hil, List.map_append]; rfl)
      have hlen : (keys (U.take i)).length = i := by unfold keys; rw [List.length_map, List.length_take]; omega
      generalize (U[i]'hil).key = key at *
      generalize keys (U.take i) = l at *
      obtain ⟨ao1, ca1, rfl, _⟩ := (Rd.of_sl hst.1).shape
      have hsl := hst.1
      have APP := Lib.hid (fun (W w2 : World) (g off cap : Nat) (hk : Kept (fun _ => False) wr W) h1 h2 h3 => (hst.kept hk).push (g := g) (off := off) (cap := cap) (k := key) (w2 := w2) h1 h2 h3)
      have hone : ∀ u ∈ [Value.string key], u.oneCell' = true := by simp [Value.oneCell']
      have b1 : l.length + 1 ≤ maxLen := by unfold maxLen; omega
      have b2 : (l.length + 1) * 16 ≤ 140737488355328 := by omega
      have HLEN := Lib.hid hlen
      have HI := Lib.hid hi
      clear hst hlen
      go_wp2_with (at_builtin; refine wpList_append_sl _ rfl (.tmp 14) (.tmp 23) 49 rfl 9 i0 _ 1 16 Tryz.underlying49 hi0 hz0 hz1 hz2 rfl (by decide) _ l.length (strs l) rfl (hsl.kept ((Kept.refl (fun _ => False) wr).alloc (.cells #[.string key] 9)) (fun _ _ h => h)) ⟨wr.heap.size, 0, none⟩ 1 1 [.string key] rfl rfl (cells_new _ _ _ _) hone (by omega) b1 b2 ?_; intro g4 off4 cap w5 h1 h2 h3; have FINQ := Lib.hid (APP.out _ w5 g4 off4 cap ((Kept.refl (fun _ => False) wr).alloc _) h1 h2 h3); clear h1 h2 h3)
      go_roundg (gk - 1)
      case measure => omega
      case rel => exact ⟨i + 1, by omega, by go_num, by rw [NX.out]; exact FINQ.out⟩
    · obtain rfl : i = n := by omega
      have he : U.take i = U := List.take_of_length_le (by have := HN.out; omega)
      rw [he] at hst
      have HST := Lib.hid hst
      obtain ⟨ao1, ca1, rfl, _⟩ := (Rd.of_sl hst.1).shape
      clear hst he hi hin
      go_wp2_with fail
      go_ret
      exact ⟨_, rfl, HST.out⟩

set_option maxHeartbeats 4000000 in
theorem sameReply_true (r : Rp) (va vb : Value) (w : World) (ha : Rd w 1 r.keys.length va (strs r.keys)) (hb : Rd w 1 r.keys.length vb (strs r.keys)) (hl : r.keys.length ≤ 1000000) :
    Calls Tryz.prog 14 #[rpV r va, rpV r vb] w fun e w' => e = .returned (.bool true) ∧ Kept (fun _ => False) w w' := by
  obtain ⟨ao, ca, rfl, _⟩ := ha.shape
  obtain ⟨bo, cb, rfl, _⟩ := hb.shape
  have SAME := Lib.hid (fun (W : World) (hk : Kept (fun _ => False) w W) => sameTexts_true _ _ r.keys W (ha.kept hk (fun _ _ h => h)) (hb.kept hk (fun _ _ h => h)) hl)
  clear ha hb
  obtain ⟨re, rv, rn, rver, rks⟩ := r
  simp only at SAME hl ⊢
  unfold rpV
  generalize rks.length = n at *
  have e1 : (re == re) = true := by simp
  go_enter Tryz.func14, Tryz.ntmps14
  go_wp2_with fail
  refine (SAME.out _ (((Kept.refl _ w).alloc _).alloc _)).mono ?_
  rintro e w3 ⟨rfl, q, rfl⟩
  go_wp2_with fail
  go_ret
  exact ⟨rfl, (((Kept.refl _ w).alloc _).alloc _).drewN q⟩
end Go.Proofs.YtekcjoogggoijaaGreatDoor
namespace Go.Proofs.YtekcjoogggoijaaGreatDoor
open Go.RowKit
set_option maxRecDepth 100000

/-- u: a slice of one's own with these items; nothing that was there has turned. -/
def Itms (w w' : World) (u : Value) (L : List It) : Prop := Sl w' 44 4 L.length u (flat L) ∧ Kept (fun _ => False) w w' ∧ ∀ k, u.ownBlock = some k → w.heap.size ≤ k
theorem Itms.nil {w w' : World} (h : Kept (fun _ => False) w w') : Itms w w' (.slice none 0 0) [] := ⟨Sl.nil _ _ _, h, fun k hk => by cases hk⟩

set_option maxHeartbeats 8000000 in
theorem items_any {w : World} {rc : Nat} {v : Value} {s : CSt} (h : RC w rc v s) (hn : s.U.length ≤ 900000) :
    Calls Tryz.prog 16 #[.pointer (some ⟨rc, 0, none⟩)] w fun e w' => ∃ u, e = .returned u ∧ Itms w w' u (itemsL s.U) := by
  obtain ⟨i0, hi0, hz0, hz1, hz2⟩ := info_parts item_info
  have KEYS := Lib.hid (refC_keys h (by omega))
  have HRC := Lib.hid h
  have k0 := h.cells.2.1
  obtain ⟨ao, ca, rfl, hca⟩ := (Rd.of_sl h.row).shape
  have HR := Lib.hid (fun (W : World) (hk : Kept (fun _ => False) w W) j hj => rd_it ((Rd.of_sl h.row).kept hk (fun _ _ h => h)) rfl j hj)
  have TAKE := Lib.hid (fun i (hi : i < (sortB (keys s.U)).length) => itemsL_take s.U hi)
  have ALL := Lib.hid (show (itemsL s.U).take (sortB (keys s.U)).length = itemsL s.U from List.take_of_length_le (by rw [itemsL_length]; unfold keys; rw [sortB_length, List.length_map]; exact Nat.le_refl _))
  have ILEN := Lib.hid (fun i (hi : i ≤ (sortB (keys s.U)).length) => show ((itemsL s.U).take i).length = i by rw [List.length_take, itemsL_length]; unfold keys at hi; rw [sortB_length, List.length_map] at hi; omega)
  have KLEN := Lib.hid (show (sortB (keys s.U)).length = s.U.length by unfold keys; rw [sortB_length, List.length_map])
  have MEM := Lib.hid (fun k (hk : k ∈ sortB (keys s.U)) => show ∃ it, look s.U k = some it by
    have hm := (sortB_perm (keys s.U)).mem_iff.1 hk
    cases hl : look s.U k with
    | some it => exact ⟨it, rfl⟩
    | none =>
      obtain ⟨y, hy, e⟩ := List.mem_map.1 hm
      obtain ⟨j, hj, rfl⟩ := List.mem_iff_getElem.1 hy
      exact absurd e (look_not hl j hj))
  clear h
  generalize itemsL s.U = IL at *
  generalize sortB (keys s.U) = ks at *
  obtain ⟨nU, hnU⟩ : ∃ nU, nU = s.U.length := ⟨_, rfl⟩
  rw [← hnU] at k0 hca hn
  have HNU := Lib.hid hnU
  clear hnU
  obtain ⟨n, hnn⟩ : ∃ n, n = ks.length := ⟨_, rfl⟩
  have hn2 : n ≤ 900000 := by rw [hnn, KLEN.out, ← HNU.out]; exact hn
  rw [← hnn] at ALL
  have HN := Lib.hid hnn
  clear hnn
  go_enter Tryz.func16, Tryz.ntmps16
  go_wp2_with fail
  refine KEYS.out.mono ?_
  rintro e w1 ⟨u, rfl, hst⟩
  obtain ⟨ao1, ca1, rfl, _⟩ := (Rd.of_sl hst.1).shape
  have HKS := Lib.hid (Rd.of_sl hst.1)
  have HK1 := Lib.hid hst.2.1
  rw [← HN.out]
  clear hst KEYS
  go_wp2_with fail
  go_loopg [3, 9] n (fun gk u k wr => ∃ i : Nat, i + gk = n ∧ k = .int .i64 (i : Int) ∧ Itms w1 wr u (IL.take i))
  case atStart => exact ⟨0, by omega, rfl, Itms.nil (Kept.refl _ _)⟩
  case round =>
    obtain ⟨i, hi, rfl, hst⟩ := hrel
    have HKW := Lib.hid (HK1.out.trans hst.2.1 (fun _ _ h => h))
    have k1 := HKW.out.cell0 k0
    by_cases hin : i < n
    · have hil : i < ks.length := HN.out ▸ hin
      obtain ⟨g, off, rfl, c0⟩ := rd_str (HKS.out.kept hst.2.1 (fun _ _ h => h)) i hil
      obtain ⟨it, hlk⟩ := MEM.out (ks[i]'hil) (List.getElem_mem hil)
      obtain ⟨j, hj, he, hy, hno⟩ := look_at hlk
      have AT := Lib.hid (refC_at_some ((HRC.out.kept0 HKW.out).kept0 ((Kept.refl _ wr).drew)) (by rw [← HNU.out]; omega) hj (by rw [he]; exact hy) hno)
      have NX := Lib.hid (show IL.take (i + 1) = IL.take i ++ [it] by rw [TAKE.out i hil, hlk]; rfl)
      obtain ⟨gL, oL, rfl, x0, x1, x2, x3⟩ := HR.out wr HKW.out j hj
      rw [he] at x0 x1 x2 x3
      have hjn : j < nU := by rw [HNU.out]; exact hj
      generalize ks[i]'hil = kk at *
      have hlen := ILEN.out i (by omega)
      generalize IL.take i = l at *
      have hsl := hst.1
      rw [hlen] at hsl
      obtain ⟨ao2, ca2, rfl, _⟩ := (Rd.of_sl hsl).shape
      have HST := Lib.hid hst
      have HLEN := Lib.hid hlen
      have one1 : ∀ u ∈ it.cells, u.oneCell' = true := by simp [It.cells, Value.oneCell']
      have b3 : i + 1 ≤ maxLen := by unfold maxLen; omega
      have b4 : (i + 1) * 48 ≤ 140737488355328 := by omega
      have HSL := Lib.hid ((hsl.kept ((Kept.refl (fun _ => False) wr).alloc (.cells #[.string it.key, .string it.val, .int .i64 it.ver, .int .i64 it.til] 44)) (fun _ _ h => h)).drew)
      have RN := Lib.hid (show Rd (wr.alloc (.cells #[.string it.key, .string it.val, .int .i64 it.ver, .int .i64 it.til] 44)).drew 4 1 (.slice (some ⟨wr.heap.size, 0, none⟩) 1 1) it.cells from rd_new wr it.cells 44 rfl)
      have KW := Lib.hid (show Kept (fun _ => False) wr (wr.alloc (.cells #[.string it.key, .string it.val, .int .i64 it.ver, .int .i64 it.til] 44)).drew from ((Kept.refl _ wr).alloc _).drew)
      clear hst hlk hj he hy hno hlen hsl
      go_wp2_with fail
      go_region_law (first
        | (refine step_append_any _ rfl (.tmp 13) (.tmp 23) 45 rfl 44 i0 _ 4 48 Tryz.underlying45 hi0 hz0 hz1 hz2 rfl (by decide) (.slice ao2 i ca2) i (flat l) (by kernel_rfl) HSL.out _ 1 it.cells (by kernel_rfl) RN.out one1 b3 b4 ?_; intro ao4 cap4 w4 h1 h2 h3; have S4 := Lib.hid h1; have K4 := Lib.hid (HST.out.2.1.trans (KW.out.mono (T := fun k => (Value.slice ao2 i ca2).ownBlock = some k) (fun _ _ e => e.elim)|>.trans h2 (fun _ _ e => e)) (fun k hk e => by have h5 := HST.out.2.2 k e; omega)); have N4 := Lib.hid (show ∀ q, (Value.slice ao4 (i + 1) cap4).ownBlock = some q → w1.heap.size ≤ q from fun q hq => (h3 q hq).elim (fun e => HST.out.2.2 q e) (fun e => by have h6 := KW.out.size; have h7 := HST.out.2.1.size; omega)); clear h1 h2 h3)
        | (go_simp; go_at_call 7; refine AT.out.mono ?_; rintro e w2 ⟨rfl, rfl⟩))
      all_goals
        go_wp2_with fail
        go_roundg (n - i - 1)
        case measure => omega
        case rel => exact ⟨i + 1, by omega, by go_num, by rw [NX.out]; exact ⟨by rw [List.length_append, HLEN.out, flat_append]; simpa [flat] using S4.out, K4.out, N4.out⟩⟩
    · obtain rfl : i = n := by omega
      rw [ALL.out] at hst
      have HST := Lib.hid hst
      obtain ⟨ao2, ca2, rfl, _⟩ := (Rd.of_sl hst.1).shape
      clear hst hi hin
      go_wp2_with fail
      go_ret
      exact ⟨_, rfl, HST.out.1, HKW.out, fun k hk => Nat.le_trans HK1.out.size (HST.out.2.2 k hk)⟩
end Go.Proofs.YtekcjoogggoijaaGreatDoor
namespace Go.Proofs.YtekcjoogggoijaaGreatDoor
open Go.RowKit
set_option maxRecDepth 100000

@[simp, go_sem] theorem rp_errno (e : Int) : (Rp.err e).errno = e := rfl
@[simp, go_sem] theorem rp_val (e : Int) : (Rp.err e).val = ⟨#[]⟩ := rfl
@[simp, go_sem] theorem rp_num (e : Int) : (Rp.err e).num = 0 := rfl
@[simp, go_sem] theorem rp_ver (e : Int) : (Rp.err e).ver = 0 := rfl
@[simp, go_sem] theorem rp_keys (e : Int) : (Rp.err e).keys = [] := rfl

@[simp, go_sem] theorem field_errno (W : World) (b c d e : Value) (a : Int) : (Instr.field 51 (.agg #[.int .i64 a, b, c, d, e]) 0).run Tryz.prog W = .ok (.int .i64 a) W := by kernel_rfl
@[simp, go_sem] theorem field_val (W : World) (a c d e : Value) (b : ByteArray) : (Instr.field 51 (.agg #[a, .string b, c, d, e]) 1).run Tryz.prog W = .ok (.string b) W := by kernel_rfl
@[simp, go_sem] theorem field_num (W : World) (a b d e : Value) (c : Int) : (Instr.field 51 (.agg #[a, b, .int .i64 c, d, e]) 2).run Tryz.prog W = .ok (.int .i64 c) W := by kernel_rfl
@[simp, go_sem] theorem field_ver (W : World) (a b c e : Value) (d : Int) : (Instr.field 51 (.agg #[a, b, c, .int .i64 d, e]) 3).run Tryz.prog W = .ok (.int .i64 d) W := by kernel_rfl
theorem OwnC.le {w0 w : World} {c : Nat} {s : CSt} {m : Int} {B : List (Nat × Obj)} (h : OwnC w0 w c s m B) {m' : Int} (hm : m ≤ m') : OwnC w0 w c s m' B := ⟨h.1.le hm, h.2⟩
theorem Laid.kept0 {w w' : World} (h : Laid w) (hk : Kept (fun _ => False) w w') : Laid w' := h.kept hk (fun _ _ h => h)
structure Outr (w0 : World) (c : Nat) (s : CSt) (m : Int) (E : TypeId) (size n : Nat) (v : Value) (xs : List Value) (wr : World) : Prop where
  good : GoodC s m
  cs : ∃ O', CS wr c O' s ∧ Grew (fun _ => False) w0 O' wr ∧ ∀ k, v.ownBlock = some k → ¬ O' k
  vs : Sl wr E size n v xs
  vf : ∀ k, v.ownBlock = some k → w0.heap.size ≤ k
  gl : ∀ k, isG k → k < w0.heap.size
section
variable {w0 wr w' : World} {c : Nat} {s s' : CSt} {m : Int} {E : TypeId} {size n : Nat} {v : Value} {xs : List Value}
theorem Outr.keep (h : Outr w0 c s m E size n v xs wr) : Kept (fun _ => False) w0 wr := by
  obtain ⟨_, _, h2, _⟩ := h.cs
  exact h2.1
theorem Outr.kept0 (h : Outr w0 c s m E size n v xs wr) (hk : Kept (fun _ => False) wr w') : Outr w0 c s m E size n v xs w' := by
  obtain ⟨O', h1, h2, h3⟩ := h.cs
  exact ⟨h.good, ⟨O', h1.kept0 hk, h2.kept hk, h3⟩, h.vs.kept hk (fun _ _ h => h), h.vf, h.gl⟩
theorem OwnC.outr {B : List (Nat × Obj)} (h : OwnC w0 wr c s m B) (E : TypeId) (size : Nat) : Outr w0 c s m E size 0 (.slice none 0 0) [] wr := by
  obtain ⟨O', h1, h2, _⟩ := h.2.cs
  exact ⟨h.1, ⟨O', h1, h2, fun k hk => by cases hk⟩, Sl.nil _ _ _, (fun k hk => by cases hk), h.2.gl⟩
theorem Outr.own (h : Outr w0 c s m E size n v xs wr) : OwnC w0 wr c s m [] := by
  obtain ⟨O', h1, h2, _⟩ := h.cs
  exact ⟨h.good, ⟨O', h1, h2, fun p hp => by cases hp⟩, (fun p hp => by cases hp), h.gl, List.nodup_nil⟩
theorem Outr.does (h : Outr w0 c s m E size n v xs wr) (hm : m ≤ 1000000000) (x : Cm) (now : Int) (hk : x.key.size ≤ 1000000000) (hv : x.val.size ≤ 1000000000) (h11 : x.op ≠ 11) (h12 : x.op ≠ 12) {r : Rp} (hr : doC s x now = (r, s')) :
    Calls Tryz.prog 8 #[.pointer (some ⟨c, 0, none⟩), .agg #[.int .i64 x.op, .string x.key, .string x.val, .int .i64 x.num, .int .i64 x.ver], .int .i64 now] wr fun e w' => e = .returned (.agg #[.int .i64 r.errno, .string r.val, .int .i64 r.num, .int .i64 r.ver, .slice none 0 0]) ∧ Outr w0 c s' (m + 1) E size n v xs w' := by
  obtain ⟨O', h1, h2, h3⟩ := h.cs
  have hg' := h.good.does x now
  have hc := cdo c O' s x now wr h1 (h.good.fit hm) hk hv h11 h12
  rw [hr] at hc hg'
  refine hc.mono ?_
  rintro e w' ⟨rfl, O'', g1, g2⟩
  exact ⟨rfl, hg', ⟨O'', g1, h2.trans g2, fun k e hO => (g2.2 k hO).elim (h3 k e) (fun hh => by have := h.vs.lt e; omega)⟩, h.vs.kept g2.1 (fun k e => h3 k e), h.vf, h.gl⟩
theorem Outr.push (h : Outr w0 c s m E size n v xs wr) {W w2 : World} (hk : Kept (fun _ => False) wr W) {g off cap j : Nat} {news : List Value}
    (h1 : Sl w2 E size (n + j) (.slice (some ⟨g, off, none⟩) (n + j) cap) (xs ++ news)) (h2 : Kept (fun i => v.ownBlock = some i) W w2) (h3 : v.ownBlock = some g ∨ W.heap.size ≤ g) :
    Outr w0 c s m E size (n + j) (.slice (some ⟨g, off, none⟩) (n + j) cap) (xs ++ news) w2 := by
  have h := h.kept0 hk
  obtain ⟨O', c1, c2, c3⟩ := h.cs
  have hob : ∀ k, (Value.slice (some ⟨g, off, none⟩) (n + j) cap).ownBlock = some k → k = g := fun k e => by simp [Value.ownBlock] at e; exact e.symm
  have hgs : w0.heap.size ≤ W.heap.size := c2.1.size
  refine ⟨h.good, ⟨O', c1.kept h2 (fun k hO e => c3 k e hO) (fun k hg e => by have := h.gl k hg; have := h.vf k e; omega), c2.keptT h2 (fun i hi e => by have := h.vf i e; omega), fun k e hO => ?_⟩,
    h1, fun k e => ?_, h.gl⟩
  · obtain rfl := hob k e
    rcases h3 with h3 | h3
    · exact c3 _ h3 hO
    · have := c1.lt hO; omega
  · obtain rfl := hob k e
    exact h3.elim (h.vf _) (fun e => by omega)
end

/-- Commands and replies in memory. -/
def Cm.cells (x : Cm) : List Value := [.int .i64 x.op, .string x.key, .string x.val, .int .i64 x.num, .int .i64 x.ver]
def Rp.cells (r : Rp) : List Value := [.int .i64 r.errno, .string r.val, .int .i64 r.num, .int .i64 r.ver, .slice none 0 0]
def flatC (l : List Cm) : List Value := l.flatMap Cm.cells
def flatR (l : List Rp) : List Value := l.flatMap Rp.cells
theorem flat5 {α : Type} {f : α → List Value} (hf : ∀ x, (f x).length = 5) : ∀ (l : List α) (i : Nat) (h : i < l.length) (j : Nat), j < 5 → (l.flatMap f)[i * 5 + j]? = (f l[i])[j]?
  | x :: l, 0, h, j, hj => by rw [List.flatMap_cons, Nat.zero_mul, Nat.zero_add, List.getElem?_append_left (by rw [hf]; omega)]; rfl
  | x :: l, i + 1, h, j, hj => by
    rw [List.flatMap_cons, List.getElem?_append_right (by rw [hf]; omega), hf, show (i + 1) * 5 + j - 5 = i * 5 + j by omega]
    exact flat5 hf l i (by simpa using h) j hj
theorem rd_cm {w : World} {v : Value} {l : List Cm} {ao : Option Addr} {m c : Nat} (h : Rd w 5 l.length v (flatC l)) (hv : v = .slice ao m c) (i : Nat) (hi : i < l.length) :
    ∃ g off, ao = some ⟨g, off, none⟩ ∧ w.cell? ⟨g, off + i * 5, none⟩ = some (.int .i64 l[i].op) ∧ w.cell? ⟨g, off + i * 5 + 1, none⟩ = some (.string l[i].key) ∧ w.cell? ⟨g, off + i * 5 + 2, none⟩ = some (.string l[i].val) ∧ w.cell? ⟨g, off + i * 5 + 3, none⟩ = some (.int .i64 l[i].num) ∧ w.cell? ⟨g, off + i * 5 + 4, none⟩ = some (.int .i64 l[i].ver) := by
  subst hv
  obtain ⟨rfl, _, hc⟩ := h.at
  have f := fun j hj => flat5 (f := Cm.cells) (fun _ => rfl) l i hi j hj
  obtain ⟨g, off, rfl, h0⟩ := hc (i * 5 + 0) _ (f 0 (by omega))
  have e : ∀ j u, j < 5 → (l[i]).cells[j]? = some u → w.cell? ⟨g, off + i * 5 + j, none⟩ = some u := fun j u hj hu => by
    obtain ⟨g', off', h3, h4⟩ := hc (i * 5 + j) u ((f j hj).trans hu)
    injection h3 with h3
    injection h3 with h5 h6
    subst h5 h6
    rwa [← Nat.add_assoc] at h4
  exact ⟨g, off, rfl, h0, e 1 _ (by omega) rfl, e 2 _ (by omega) rfl, e 3 _ (by omega) rfl, e 4 _ (by omega) rfl⟩
theorem flatR_snoc (l : List Rp) (r : Rp) : flatR (l ++ [r]) = flatR l ++ r.cells := by simp [flatR]
theorem rp_info : (Tryz.prog.info? 51).map (fun i => (i.zero, i.size, i.bytes)) = some (some (.agg #[.int .i64 0, .string ByteArray.empty, .int .i64 0, .int .i64 0, .slice none 0 0]), 5, 64) := by kernel_rfl

end Go.Proofs.YtekcjoogggoijaaGreatDoor
