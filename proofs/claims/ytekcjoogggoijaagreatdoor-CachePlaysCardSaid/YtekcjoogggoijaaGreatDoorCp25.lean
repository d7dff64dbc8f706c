/-
  The reference's Digits and Number.
-/
import Derived.Test.YtekcjoogggoijaaGreatDoorCp18
import Derived.Test.YtekcjoogggoijaaGreatDoorCp19
import Derived.Test.YtekcjoogggoijaaGreatDoorCp24
import Derived.Test.YtekcjoogggoijaaGreatDoorCp21
import Derived.Test.YtekcjoogggoijaaGreatDoorProg
import Derived.Test.YtekcjoogggoijaaGreatDoorCp01
import Derived.Laws.BytesArg
import Derived.IntWalk
import Derived.Test.YtekcjoogggoijaaGreatDoorCp23
import Derived.Deep.LoopGhost
set_option linter.unusedVariables false
set_option linter.unusedSimpArgs false
set_option linter.unnecessarySimpa false
namespace Go.Proofs.YtekcjoogggoijaaGreatDoor
open Go.RowKit
set_option maxRecDepth 100000

/-- What the reference's Do leaves: the reply, its keys in a row of their own, the reference as it is then. -/
def RDo (w : World) (rc : Nat) (v : Value) (rs : Rp × CSt) (e : Ending) (w' : World) : Prop :=
  ∃ kv v', e = .returned (rpV rs.1 kv) ∧ RC w' rc v' rs.2 ∧ Kept (fun k => k = rc) w w' ∧ (∀ k, v'.ownBlock = some k → v.ownBlock = some k ∨ w.heap.size ≤ k) ∧ Sl w' 9 1 rs.1.keys.length kv (strs rs.1.keys) ∧ ∀ k, kv.ownBlock = some k → w.heap.size ≤ k ∧ v'.ownBlock ≠ some k
theorem RDo.plain {w w' : World} {rc : Nat} {v : Value} {r : Rp} {s : CSt} (h : RStep w w' rc v s) (hk : r.keys = []) : RDo w rc v (r, s) (.returned (rpV r (.slice none 0 0))) w' := by
  obtain ⟨v', h1, h2, h3⟩ := h
  exact ⟨_, v', rfl, h1, h2, h3, by rw [hk]; exact Sl.nil _ _ _, fun k hk => by cases hk⟩

section
variable {w0 wr w' : World} {rc : Nat} {v0 : Value} {s s' : CSt} {B : List (Nat × Obj)}
/-- The end of a function whose reply lies in the second box. -/
theorem RB.rets2 {ib rb : Nat} {o : Obj} (h : RB w0 rc v0 s ((ib, o) :: (rb, zRp) :: B) wr) : ∀ (r : Rp) (kv : Value), (over5 wr rb r kv).heap[rb]? = some (rpO r kv) ∧ RStep w0 (over5 wr rb r kv) rc v0 s :=
  fun r kv => ⟨(h.swap.ret r kv).1, (h.swap.ret r kv).2.rstep⟩
theorem RB.rets3 {ib cb rb : Nat} {o o' : Obj} (h : RB w0 rc v0 s ((cb, o') :: (ib, o) :: (rb, zRp) :: B) wr) : ∀ (r : Rp) (kv : Value), (over5 wr rb r kv).heap[rb]? = some (rpO r kv) ∧ RStep w0 (over5 wr rb r kv) rc v0 s :=
  fun r kv => ⟨(h.drop.swap.ret r kv).1, (h.drop.swap.ret r kv).2.rstep⟩
theorem RB.rets1 {rb : Nat} (h : RB w0 rc v0 s ((rb, zRp) :: B) wr) : ∀ (r : Rp) (kv : Value), (over5 wr rb r kv).heap[rb]? = some (rpO r kv) ∧ RStep w0 (over5 wr rb r kv) rc v0 s :=
  fun r kv => ⟨(h.ret r kv).1, (h.ret r kv).2.rstep⟩
end
theorem sweep_snoc (now : Int) (L : List It) (x : It) : sweepC now (L ++ [x]) = if overB now x then sweepC now L else sweepC now L ++ [x] := by
  unfold sweepC
  rw [List.filter_append, List.filter_cons, List.filter_nil]
  cases overB now x <;> simp
theorem sweep_nodup (now : Int) {L : List It} (h : (keys L).Nodup) : (keys (sweepC now L)).Nodup := by
  unfold keys sweepC at *
  exact (List.Sublist.map _ List.filter_sublist).nodup h
theorem two_boxesR {w : World} {rc : Nat} {v : Value} {s : CSt} (h : RC w rc v s) (o p : Obj) : RB w rc v s [(w.heap.size + 1, p), (w.heap.size, o)] ((w.alloc o).alloc p) := by
  have h1 := ((RB.start h).alloc o).alloc p
  rwa [show (w.alloc o).heap.size = w.heap.size + 1 by simp] at h1
theorem refC_writeX {rc : Nat} {v : Value} (s : CSt) (x : It) (w : World) (h : RC w rc v s) (hf : FitC s) (hnd : (keys s.U).Nodup) (hk : x.key.size ≤ 1000) (hv : x.val.size ≤ 1000) :
    Calls Tryz.prog 33 #[.pointer (some ⟨rc, 0, none⟩), .agg #[.string x.key, .string x.val, .int .i64 x.ver, .int .i64 x.til]] w fun e w' => e = .returned (.agg #[.int .i64 (writeC s x).1.errno, .string (writeC s x).1.val, .int .i64 (writeC s x).1.num, .int .i64 (writeC s x).1.ver, .slice none 0 0]) ∧ RStep w w' rc v (writeC s x).2 := refC_write s x w h hf hnd hk hv
theorem eraseMid {α : Type} (A : List α) (x : α) (B : List α) : (A ++ x :: B).eraseIdx A.length = A ++ B := by
  rw [List.eraseIdx_append_of_length_le (Nat.le_refl _)]
  simp

set_option maxHeartbeats 16000000 in
theorem refDo_err {rc : Nat} {v : Value} (s : CSt) (x : Cm) (now : Int) (w : World) (h : RC w rc v s) (hk : x.key.size ≤ 1000000000) (hv : x.val.size ≤ 1000000000) (hbad : ¬ rightC x ∨ now < 0 ∨ 1000000000000 < now) :
    Calls Tryz.prog 9 #[.pointer (some ⟨rc, 0, none⟩), .agg #[.int .i64 x.op, .string x.key, .string x.val, .int .i64 x.num, .int .i64 x.ver], .int .i64 now] w (RDo w rc v (doC s x now)) := by
  have hB := two_boxesR h (cmO x) zRp
  obtain ⟨rb, hrb⟩ : ∃ rb, rb = w.heap.size + 1 := ⟨_, rfl⟩
  obtain ⟨xb, hxb⟩ : ∃ xb, xb = w.heap.size := ⟨_, rfl⟩
  obtain ⟨W0, hW0⟩ : ∃ W0, W0 = (w.alloc (cmO x)).alloc zRp := ⟨_, rfl⟩
  rw [← hrb, ← hxb, ← hW0] at hB
  have RGT := Lib.hid (refCommand_any x W0 hk hv)
  have HB := Lib.hid hB
  have HW : Hid (doC s x now = (Rp.err 1, s)) := Lib.hid (if_pos hbad)
  have HW0 := Lib.hid hW0
  have HRB := Lib.hid hrb
  have HXB := Lib.hid hxb
  have hbad2 := hbad
  have HBAD := Lib.hid hbad
  clear h hB hW0 hrb hxb hbad hbad2
  go_enter Tryz.func9, Tryz.ntmps9
  go_wp2_with fail
  rw [← HRB.out, ← HXB.out, ← show W0 = (w.alloc (.cells #[.int .i64 x.op, .string x.key, .string x.val, .int .i64 x.num, .int .i64 x.ver] 39)).alloc (.cells #[.int .i64 0, .string { data := #[] }, .int .i64 0, .int .i64 0, .slice none 0 0] 51) from HW0.out]
  refine RGT.out.mono ?_
  rintro e w1 ⟨rfl, hk1⟩
  have hB := HB.out.kept0 hk1
  have hrx := (hB.box (rb, zRp) (.head _)).1
  obtain ⟨z0, z1, z2, z3, z4, y0, y1, y2, y3, y4, y5⟩ := z_facts hrx
  have RET := Lib.hid hB.rets1
  clear HW0 HRB HXB RGT HB hk1 hB hrx
  rcases (show (decide (rightC x) = false) ∨ (decide (rightC x) = true ∧ now < 0) ∨ (decide (rightC x) = true ∧ ¬ now < 0 ∧ 1000000000000 < now) from by
    by_cases hr : rightC x
    · by_cases hn0 : now < 0
      · exact .inr (.inl ⟨decide_eq_true hr, hn0⟩)
      · exact .inr (.inr ⟨decide_eq_true hr, hn0, (HBAD.out.resolve_left (fun h => h hr)).resolve_left hn0⟩)
    · exact .inl (decide_eq_false hr)) with hd | ⟨hd, hn0⟩ | ⟨hd, hn0, hn1⟩
  all_goals
    rw [hd]
    clear hd
    go_wp2_with fail
    (try simp only [Exit.inBlock, Exit.then])
    refine bodyPost_ret (results_cell_row rfl _ _ rb _ _ _ _ rfl (RET.out (Rp.err 1) (.slice none 0 0)).1 Tryz.underlying51 rfl rp_size) rfl ?_
    rw [HW.out]
    exact RDo.plain (RET.out (Rp.err 1) (.slice none 0 0)).2 rfl
end Go.Proofs.YtekcjoogggoijaaGreatDoor
namespace Go.Proofs.YtekcjoogggoijaaGreatDoor
open Go.RowKit

/-- 'string([]byte{..})'. -/
theorem conv_new (w : World) (ns : List Int) : (convert 123 9 (.slice (some ⟨w.heap.size, 0, none⟩) ns.length ns.length)).run Tryz.prog (w.alloc (.cells (ns.map (Value.int .u8)).toArray 5)) = .ok (.string (strOfNums ns)) (w.alloc (.cells (ns.map (Value.int .u8)).toArray 5)) := by
  refine run_convert_bytes_arg _ 123 5 Tryz.underlying123 Tryz.underlying5 w.heap.size 0 ns.length ns.length ns rfl (fun i hi => ?_) 9 Tryz.underlying9
  have h := cells_new w (ns.map (Value.int .u8)) 5 (0, 0) i (.int .u8 ns[i]) (by simp [hi])
  rw [Addr.add_lit] at h
  rw [h]
  simp [List.getD, hi]
end Go.Proofs.YtekcjoogggoijaaGreatDoor
namespace Go.Proofs.YtekcjoogggoijaaGreatDoor
open Go.RowKit
set_option maxRecDepth 100000

/-- Digits under way: u is left, s stands already. -/
def DSt (U u : Nat) (s : List UInt8) : Prop := (s = [] ∧ u = U) ∨ (s ≠ [] ∧ (u = 0 → s = Lib.decDigits U) ∧ (u ≠ 0 → Lib.decDigits u ++ s = Lib.decDigits U))
theorem DSt.step {U u : Nat} {s : List UInt8} (h : DSt U u s) (hc : u ≠ 0 ∨ s = []) : DSt U (u / 10) (UInt8.ofNat (48 + u % 10) :: s) := by
  refine .inr ⟨by simp, fun h0 => ?_, fun h0 => ?_⟩
  · have hu : u < 10 := by omega
    have hd := dec_small hu
    rw [show u % 10 = u by omega]
    rcases h with ⟨rfl, rfl⟩ | ⟨hs, h1, h2⟩
    · exact hd.symm
    · have := h2 (hc.resolve_right hs)
      rw [hd] at this
      exact this
  · have hu : ¬ u < 10 := by omega
    have hd := dec_big hu
    rcases h with ⟨rfl, rfl⟩ | ⟨hs, h1, h2⟩
    · exact hd.symm
    · have := h2 (by omega)
      rw [hd, List.append_assoc] at this
      exact this
theorem DSt.fin {U u : Nat} {s : List UInt8} (h : DSt U u s) (h0 : u = 0) (hs : s ≠ []) : s = Lib.decDigits U := by
  rcases h with ⟨rfl, _⟩ | ⟨_, h1, _⟩
  · exact absurd rfl hs
  · exact h1 h0
def bytesOf (l : List UInt8) : ByteArray := ⟨l.toArray⟩
theorem bytesOf_app (c : Nat) (s : List UInt8) : strOfNums [(c : Int)] ++ bytesOf s = bytesOf (UInt8.ofNat c :: s) := by
  apply ByteArray.ext
  simp [strOfNums, bytesOf, ByteArray.data_append]
theorem bytesOf_eq (s : List UInt8) : (bytesOf s = ⟨#[]⟩) ↔ s = [] := by
  constructor
  · intro h
    have := congrArg (fun b : ByteArray => b.data.toList) h
    simpa [bytesOf] using this
  · rintro rfl
    rfl
theorem dec_len {u : Nat} (h : u ≤ 1000000000000) : (Lib.decDigits u).length ≤ 13 := by
  rw [Lib.decDigits_length]
  exact refNum_eq.few 12 u (by omega)
theorem DSt.len {U u : Nat} {s : List UInt8} (h : DSt U u s) (hU : U ≤ 1000000000000) : s.length ≤ 13 := by
  have h1 := dec_len hU
  rcases h with ⟨rfl, _⟩ | ⟨_, h2, h3⟩
  · simp
  · by_cases h0 : u = 0
    · rw [h2 h0]; exact h1
    · have := congrArg List.length (h3 h0)
      rw [List.length_append] at this
      omega

theorem bytesOf_empty {s : List UInt8} (h : s = []) : (bytesOf s).toList.isEmpty = true := by subst h; rw [ByteArray.toList_eq]; rfl
theorem bytesOf_some {s : List UInt8} (h : s ≠ []) : (bytesOf s).toList.isEmpty = false := by
  rw [ByteArray.toList_eq]
  cases s with
  | nil => exact absurd rfl h
  | cons c r => rfl
theorem bytesOf_size (s : List UInt8) : (bytesOf s).size = s.length := rfl
/-- Digits' loop. -/
def DLoop (w : World) (U gk : Nat) (sv uv : Value) (wr : World) : Prop := ∃ (u : Nat) (s : List UInt8), u ≤ U ∧ uv = .int .u64 (u : Int) ∧ sv = .string (bytesOf s) ∧ DSt U u s ∧ u + (if s = [] then 1 else 0) = gk ∧ Kept (fun _ => False) w wr

set_option maxHeartbeats 4000000 in
theorem ref_digits (v : Int) (w : World) (h0 : -1000000000000 ≤ v) (h1 : v ≤ 1000000000000) :
    Calls Tryz.prog 37 #[.int .i64 v] w fun e w' => e = .returned (.string (itoaB v)) ∧ Kept (fun _ => False) w w' := by
  have hUb : v.natAbs ≤ 1000000000000 := by omega
  by_cases hv : v < 0
  · have e1 : IntKind.u64.wrap v = 18446744073709551616 + v := by rw [IntKind.wrap_u64]; omega
    have e2 : IntKind.u64.wrap (-(18446744073709551616 + v)) = (v.natAbs : Int) := by rw [IntKind.wrap_u64]; omega
    have hit : itoaB v = ⟨#[45]⟩ ++ bytesOf (Lib.decDigits v.natAbs) := by
      apply ByteArray.ext
      unfold itoaB
      rw [itoa_neg hv]
      simp [bytesOf, ByteArray.data_append]
    have HIT := Lib.hid hit
    clear hit
    go_enter Tryz.func37, Tryz.ntmps37
    go_wp2_with fail
    go_loopg [3, 4] (v.natAbs + 1) (fun gk sv uv wr => DLoop w v.natAbs gk sv uv wr)
    case atStart => exact ⟨v.natAbs, [], Nat.le_refl _, rfl, rfl, .inl ⟨rfl, rfl⟩, by simp, Kept.refl _ _⟩
    case round =>
      obtain ⟨u, s, hub, rfl, rfl, hd, hm, hk⟩ := hrel
      by_cases hc : u ≠ 0 ∨ s = []
      · have HST := Lib.hid (hd.step hc)
        have hlen := hd.len hUb
        have HBS := Lib.hid (bytesOf_app (48 + u % 10) s)
        have HK := Lib.hid (fun o => hk.alloc o)
        have HUB := Lib.hid (show u / 10 ≤ v.natAbs by omega)
        have hsz := bytesOf_size s
        clear hd hk
        by_cases hu : u = 0
        · have hs := bytesOf_empty (hc.resolve_left (fun h => h hu))
          have HS2 := Lib.hid (show s = [] from hc.resolve_left (fun h => h hu))
          have hcv := conv_new wr [48]
          simp only [List.length_cons, List.length_nil, List.map_cons, List.map_nil, Nat.zero_add] at hcv
          have hz : (strOfNums [48]).size = 1 := strOfNums_size _
          clear hc
          subst hu
          go_wp2_with fail
          go_roundg 0
          case measure => rw [← hm, if_pos HS2.out]; omega
          case rel => exact ⟨0, _, Nat.zero_le _, rfl, by rw [show (48 : Int) = ((48 + 0 % 10 : Nat) : Int) from rfl, HBS.out], HST.out, by simp, HK.out _⟩
        · have hcv := conv_new wr [48 + (u : Int) % 10]
          simp only [List.length_cons, List.length_nil, List.map_cons, List.map_nil, Nat.zero_add] at hcv
          have hz : (strOfNums [48 + (u : Int) % 10]).size = 1 := strOfNums_size _
          have hm2 : u / 10 + 0 < gk := by rw [← hm]; omega
          have e3 : (48 + (u : Int) % 10) = ((48 + u % 10 : Nat) : Int) := by omega
          have E3 := Lib.hid e3
          clear e3 hm
          go_wp2_with fail
          go_roundg (u / 10)
          case measure => omega
          case rel => exact ⟨u / 10, _, HUB.out, by simp, by rw [E3.out, HBS.out], HST.out, by simp, HK.out _⟩
      · have hu : u = 0 := Classical.byContradiction fun h => hc (.inl h)
        have hsn : s ≠ [] := fun h => hc (.inr h)
        have hs := bytesOf_some hsn
        have HF := Lib.hid (hd.fin hu hsn)
        have HK := Lib.hid hk
        have hlen := hd.len hUb
        have hsz := bytesOf_size s
        clear hd hk hc hm hub hsn
        subst hu
        go_wp2_with fail
        go_ret
        refine ⟨?_, HK.out⟩
        rw [HIT.out, HF.out]
        rfl
  · have e1 : IntKind.u64.wrap v = (v.natAbs : Int) := by rw [IntKind.wrap_u64]; omega
    have hit : itoaB v = bytesOf (Lib.decDigits v.natAbs) := by
      apply ByteArray.ext
      unfold itoaB
      rw [itoa_pos hv, show v.toNat = v.natAbs by omega]
      rfl
    have HIT := Lib.hid hit
    clear hit
    go_enter Tryz.func37, Tryz.ntmps37
    go_wp2_with fail
    go_loopg [3, 4] (v.natAbs + 1) (fun gk sv uv wr => DLoop w v.natAbs gk sv uv wr)
    case atStart => exact ⟨v.natAbs, [], Nat.le_refl _, rfl, rfl, .inl ⟨rfl, rfl⟩, by simp, Kept.refl _ _⟩
    case round =>
      obtain ⟨u, s, hub, rfl, rfl, hd, hm, hk⟩ := hrel
      by_cases hc : u ≠ 0 ∨ s = []
      · have HST := Lib.hid (hd.step hc)
        have hlen := hd.len hUb
        have HBS := Lib.hid (bytesOf_app (48 + u % 10) s)
        have HK := Lib.hid (fun o => hk.alloc o)
        have HUB := Lib.hid (show u / 10 ≤ v.natAbs by omega)
        have hsz := bytesOf_size s
        clear hd hk
        by_cases hu : u = 0
        · have hs := bytesOf_empty (hc.resolve_left (fun h => h hu))
          have HS2 := Lib.hid (show s = [] from hc.resolve_left (fun h => h hu))
          have hcv := conv_new wr [48]
          simp only [List.length_cons, List.length_nil, List.map_cons, List.map_nil, Nat.zero_add] at hcv
          have hz : (strOfNums [48]).size = 1 := strOfNums_size _
          clear hc
          subst hu
          go_wp2_with fail
          go_roundg 0
          case measure => rw [← hm, if_pos HS2.out]; omega
          case rel => exact ⟨0, _, Nat.zero_le _, rfl, by rw [show (48 : Int) = ((48 + 0 % 10 : Nat) : Int) from rfl, HBS.out], HST.out, by simp, HK.out _⟩
        · have hcv := conv_new wr [48 + (u : Int) % 10]
          simp only [List.length_cons, List.length_nil, List.map_cons, List.map_nil, Nat.zero_add] at hcv
          have hz : (strOfNums [48 + (u : Int) % 10]).size = 1 := strOfNums_size _
          have hm2 : u / 10 + 0 < gk := by rw [← hm]; omega
          have e3 : (48 + (u : Int) % 10) = ((48 + u % 10 : Nat) : Int) := by omega
          have E3 := Lib.hid e3
          clear e3 hm
          go_wp2_with fail
          go_roundg (u / 10)
          case measure => omega
          case rel => exact ⟨u / 10, _, HUB.out, by simp, by rw [E3.out, HBS.out], HST.out, by simp, HK.out _⟩
      · have hu : u = 0 := Classical.byContradiction fun h => hc (.inl h)
        have hsn : s ≠ [] := fun h => hc (.inr h)
        have hs := bytesOf_some hsn
        have HF := Lib.hid (hd.fin hu hsn)
        have HK := Lib.hid hk
        have hlen := hd.len hUb
        have hsz := bytesOf_size s
        clear hd hk hc hm hub hsn
        subst hu
        go_wp2_with fail
        go_ret
        refine ⟨?_, HK.out⟩
        rw [HIT.out, HF.out]
        rfl
end Go.Proofs.YtekcjoogggoijaaGreatDoor
