/-
  Package cache's walks, the sixth part: sweep.
-/
import Derived.Test.YtekcjoogggoijaaGreatDoorCp14
set_option linter.unusedVariables false
set_option linter.unusedSimpArgs false
set_option linter.unnecessarySimpa false
namespace Go.Proofs.YtekcjoogggoijaaGreatDoor
open Go.RowKit
set_option maxRecDepth 100000

/-- The items, by their keys. -/
def itemsL (U : List It) : List It := (sortB (keys U)).map (fun k => (look U k).getD It.none)
theorem itemsL_length (U : List It) : (itemsL U).length = U.length := by unfold itemsL keys; rw [List.length_map, sortB_length, List.length_map]
theorem itemsL_take (U : List It) {i : Nat} (hi : i < (sortB (keys U)).length) : (itemsL U).take (i + 1) = (itemsL U).take i ++ [(look U ((sortB (keys U))[i])).getD It.none] := by
  unfold itemsL
  rw [List.take_succ_eq_append_getElem (by rw [List.length_map]; exact hi)]
  simp

/-- Items under way: the keys' slice, the items so far. -/
structure Outs (w0 : World) (c : Nat) (O0 : Nat → Prop) (s : CSt) (kv : Value) (ks : List ByteArray) (v : Value) (L : List It) (wr : World) : Prop where
  cs : ∃ O', CS wr c O' s ∧ Grew O0 w0 O' wr ∧ (∀ k, v.ownBlock = some k → ¬ O' k) ∧ (∀ k, kv.ownBlock = some k → ¬ O' k)
  ks : Sl wr 9 1 ks.length kv (strs ks)
  vs : Sl wr 44 4 L.length v (flat L)
  vf : ∀ k, v.ownBlock = some k → w0.heap.size ≤ k
  kf : ∀ k, kv.ownBlock = some k → w0.heap.size ≤ k
  ne : ∀ k, v.ownBlock = some k → kv.ownBlock ≠ some k
  gl : ∀ k, isG k → k < w0.heap.size
section
variable {w0 wr : World} {c : Nat} {O0 : Nat → Prop} {s : CSt} {kv v : Value} {ks : List ByteArray} {L : List It}
theorem Outs.kept0 (h : Outs w0 c O0 s kv ks v L wr) {w' : World} (hk : Kept (fun _ => False) wr w') : Outs w0 c O0 s kv ks v L w' := by
  obtain ⟨O', h1, h2, h3, h4⟩ := h.cs
  exact ⟨⟨O', h1.kept0 hk, h2.kept hk, h3, h4⟩, h.ks.kept hk (fun _ _ h => h), h.vs.kept hk (fun _ _ h => h), h.vf, h.kf, h.ne, h.gl⟩
theorem Outs.start (h : CS wr c O0 s) {w1 : World} (hk : Strs wr w1 kv ks) : Outs wr c O0 s kv ks (.slice none 0 0) [] w1 := by
  refine ⟨⟨O0, h.kept0 hk.2.1, Grew.of_kept hk.2.1, (fun k hk => by cases hk), fun k hv hO => ?_⟩, hk.1, Sl.nil _ _ _, (fun k hk => by cases hk), hk.2.2, (fun k hk => by cases hk), fun k hg => h.laid.lt hg⟩
  have h1 := hk.2.2 k hv
  have h2 := h.lt hO
  omega
theorem Outs.get (h : Outs w0 c O0 s kv ks v L wr) : ∃ bt, wr.cell? ⟨c, 1, none⟩ = some (.pointer (some ⟨bt, 0, none⟩)) ∧ ∀ (W : World) (key : ByteArray), Kept (fun _ => False) wr W → key.size ≤ 1000000 →
    Calls Tryz.prog 41 #[.pointer (some ⟨bt, 0, none⟩), .string key] W fun e w' => e = .returned (gotV (look s.U key)) ∧ Outs w0 c O0 s kv ks v L w' := by
  obtain ⟨O', h1, h2, h3, h4⟩ := h.cs
  obtain ⟨bt, t1, hg, _⟩ := cs_open h1
  refine ⟨bt, t1, fun W key hk hkey => (hg W key hk hkey).mono ?_⟩
  rintro e w' ⟨rfl, O'', g1, g2⟩
  have hv := h.vs.kept hk (fun _ _ h => h)
  have hks := h.ks.kept hk (fun _ _ h => h)
  exact ⟨rfl, ⟨O'', g1, (h2.kept hk).trans g2, fun k e hO => (g2.2 k hO).elim (h3 k e) (fun hh => by have := hv.lt e; omega), fun k e hO => (g2.2 k hO).elim (h4 k e) (fun hh => by have := hks.lt e; omega)⟩,
    hks.kept g2.1 (fun k e => h4 k e), hv.kept g2.1 (fun k e => h3 k e), h.vf, h.kf, h.ne, h.gl⟩
theorem Outs.push (h : Outs w0 c O0 s kv ks v L wr) {W w2 : World} (hk : Kept (fun _ => False) wr W) {g off cap : Nat} {x : It}
    (h1 : Sl w2 44 4 (L.length + 1) (.slice (some ⟨g, off, none⟩) (L.length + 1) cap) (flat L ++ [.string x.key, .string x.val, .int .i64 x.ver, .int .i64 x.til])) (h2 : Kept (fun i => v.ownBlock = some i) W w2) (h3 : v.ownBlock = some g ∨ W.heap.size ≤ g) :
    Outs w0 c O0 s kv ks (.slice (some ⟨g, off, none⟩) (L.length + 1) cap) (L ++ [x]) w2 := by
  have h := h.kept0 hk
  obtain ⟨O', c1, c2, c3, c4⟩ := h.cs
  have hob : ∀ k, (Value.slice (some ⟨g, off, none⟩) (L.length + 1) cap).ownBlock = some k → k = g := fun k e => by simp [Value.ownBlock] at e; exact e.symm
  have hgs : w0.heap.size ≤ W.heap.size := c2.1.size
  refine ⟨⟨O', c1.kept h2 (fun k hO e => c3 k e hO) (fun k hg e => by have := h.gl k hg; have := h.vf k e; omega), c2.keptT h2 (fun i hi e => by have := h.vf i e; omega), fun k e hO => ?_, c4⟩,
    h.ks.kept h2 (fun k e e' => h.ne k e' e), ?_, fun k e => ?_, h.kf, fun k e e' => ?_, h.gl⟩
  · obtain rfl := hob k e
    rcases h3 with h3 | h3
    · exact c3 _ h3 hO
    · have := c1.lt hO; omega
  · rw [List.length_append, flat_append]
    exact h1
  · obtain rfl := hob k e
    exact h3.elim (h.vf _) (fun e => by omega)
  · obtain rfl := hob k e
    rcases h3 with h3 | h3
    · exact h.ne _ h3 e'
    · have := h.ks.lt e'; omega
end

/-- What Items answers. -/
def ItemsSaid (w : World) (c : Nat) (O : Nat → Prop) (s : CSt) (e : Ending) (w' : World) : Prop :=
  ∃ v O', e = .returned v ∧ CS w' c O' s ∧ Grew O w O' w' ∧ Sl w' 44 4 s.U.length v (flat (itemsL s.U)) ∧ (∀ k, v.ownBlock = some k → w.heap.size ≤ k ∧ ¬ O' k)
theorem Outs.fin {w0 wr : World} {c : Nat} {O0 : Nat → Prop} {s : CSt} {kv v : Value} {ks : List ByteArray} (h : Outs w0 c O0 s kv ks v (itemsL s.U) wr) : ItemsSaid w0 c O0 s (.returned v) wr := by
  obtain ⟨O', h1, h2, h3, h4⟩ := h.cs
  have hv := h.vs
  rw [itemsL_length] at hv
  exact ⟨v, O', rfl, h1, h2, hv, fun k e => ⟨h.vf k e, h3 k e⟩⟩

set_option maxHeartbeats 4000000 in
theorem citems (c : Nat) (O : Nat → Prop) (s : CSt) (w : World) (h : CS w c O s) (hl : s.U.length ≤ 200000) (hkeys : ∀ x ∈ s.U, x.key.size ≤ 1000000) :
    Calls Tryz.prog 11 #[.pointer (some ⟨c, 0, none⟩)] w (ItemsSaid w c O s) := by
  obtain ⟨i0, hi, hz0, hz1, hz2⟩ := info_parts item_info
  obtain ⟨bt, t1, _, hks, _⟩ := cs_open h
  have KS := Lib.hid (show Calls Tryz.prog 40 #[.pointer (some ⟨bt, 0, none⟩)] w (fun e w' => ∃ v, e = .returned v ∧ Strs w w' v (sortB (keys s.U))) from hks w (Kept.refl _ _))
  have hkz : ∀ k ∈ sortB (keys s.U), k.size ≤ 1000000 := by
    intro k hk
    have h1 := (sortB_perm (keys s.U)).mem_iff.1 hk
    unfold keys at h1
    obtain ⟨x, hx, rfl⟩ := List.mem_map.1 h1
    exact hkeys x hx
  have HKZ := Lib.hid hkz
  have hlen : (sortB (keys s.U)).length = s.U.length := by unfold keys; rw [sortB_length, List.length_map]
  have TAKE := Lib.hid (fun i (hi : i < (sortB (keys s.U)).length) => itemsL_take s.U hi)
  have HLEN := Lib.hid (itemsL_length s.U)
  have START := Lib.hid (fun kv w1 (hk : Strs w w1 kv (sortB (keys s.U))) => Outs.start h hk)
  clear hks hkz h hkeys
  generalize sortB (keys s.U) = ks at *
  obtain ⟨n, hn⟩ : ∃ n, n = s.U.length := ⟨_, rfl⟩
  rw [← hn] at hl hlen HLEN
  clear hn
  have HL := Lib.hid hlen
  go_enter Tryz.func11, Tryz.ntmps11
  go_wp2_with fail
  refine KS.out.mono ?_
  rintro e w1 ⟨kv, rfl, hst⟩
  obtain ⟨ao, ca, rfl, hca⟩ := (Rd.of_sl hst.1).shape
  have ST := START.out _ _ hst
  rw [hlen] at ST hca ⊢
  clear hst t1 hlen
  have SH := Lib.hid ST
  clear ST
  go_wp2_with fail
  go_loopg [3, 16] n (fun gk out k wr => ∃ i : Nat, i + gk = n ∧ k = .int .i64 (i : Int) ∧ Outs w c O s (.slice ao n ca) ks out ((itemsL s.U).take i) wr)
  case atStart => exact ⟨0, by omega, rfl, SH.out⟩
  case round =>
    obtain ⟨i, hi', rfl, hj⟩ := hrel
    by_cases hlt : i < n
    · have hik : i < ks.length := by rw [HL.out]; exact hlt
      obtain ⟨g, off, rfl, x0⟩ := rd_str (Rd.of_sl (by have := hj.ks; rwa [show ks.map Value.string = strs ks from rfl])) i hik
      obtain ⟨bt, t1, hget⟩ := hj.get
      have hkz := HKZ.out _ (List.getElem_mem hik)
      have TK := Lib.hid (TAKE.out i hik)
      have GET := Lib.hid (hget wr _ (Kept.refl _ _) hkz)
      have hll : ((itemsL s.U).take i).length ≤ n := by rw [List.length_take, HLEN.out]; omega
      clear hget hj hkz
      generalize (ks[i]'hik) = key at *
      go_wp2_with fail
      refine GET.out.mono ?_
      rintro e w3 ⟨rfl, hj⟩
      generalize hx : (look s.U key).getD It.none = x at *
      have hgv : gotV (look s.U key) = .tuple #[.agg #[.string x.key, .string x.val, .int .i64 x.ver, .int .i64 x.til], .bool (look s.U key).isSome] := by rw [← hx]; rfl
      rw [hgv]
      have hsl := hj.vs
      have hka : ∀ (o1 o2 : Obj), Kept (fun _ => False) w3 ((w3.alloc o1).alloc o2) := fun o1 o2 => ((Kept.refl _ w3).alloc o1).alloc o2
      have DONE := Lib.hid (fun o1 o2 g4 off4 cap w2 h1 h2 h3 => TK.out ▸ hj.push (hka o1 o2) (x := x) (w2 := w2) (g := g4) (off := off4) (cap := cap) h1 h2 h3)
      have hcn : ∀ (o1 : Obj) (j : Nat) (u : Value), [Value.string x.key, .string x.val, .int .i64 x.ver, .int .i64 x.til][j]? = some u → ((w3.alloc o1).alloc (.cells [Value.string x.key, .string x.val, .int .i64 x.ver, .int .i64 x.til].toArray 44)).cell? ((⟨w3.heap.size + 1, 0, none⟩ : Addr).add j) = some u := by
        intro o1 j u hu
        have h := cells_new (w3.alloc o1) [.string x.key, .string x.val, .int .i64 x.ver, .int .i64 x.til] 44 (0, 0) j u hu
        rw [show (w3.alloc o1).heap.size = w3.heap.size + 1 by simp] at h
        exact h
      have HCN := Lib.hid hcn
      clear hcn hj hgv hx GET t1 hka
      generalize (look s.U key).isSome = isb at *
      generalize (itemsL s.U).take i = done at *
      generalize hnx : (itemsL s.U).take (i + 1) = next at *
      have HNX := Lib.hid hnx
      clear hnx
      have hone : ∀ u ∈ [Value.string x.key, .string x.val, .int .i64 x.ver, .int .i64 x.til], u.oneCell' = true := by simp [Value.oneCell']
      have b1 : done.length + 1 ≤ maxLen := by unfold maxLen; omega
      have b2 : (done.length + 1) * 48 ≤ 140737488355328 := by omega
      go_wp2_with (at_builtin; refine wpList_append_sl _ rfl (.tmp 29) (.tmp 31) 45 rfl 44 i0 _ 4 48 Tryz.underlying45 hi hz0 hz1 hz2 rfl (by decide) u3 done.length (flat done) rfl ((hsl.alloc _).alloc _) ⟨w3.heap.size + 1, 0, none⟩ 1 1 [.string x.key, .string x.val, .int .i64 x.ver, .int .i64 x.til] rfl rfl (HCN.out _) hone (by omega) b1 b2 ?_; intro g4 off4 cap w2 h1 h2 h3; have FINQ := Lib.hid (DONE.out _ _ g4 off4 cap w2 h1 h2 h3); clear h1 h2 h3)
      go_roundg (gk - 1)
      case measure => omega
      case rel => exact ⟨i + 1, by omega, by go_num, HNX.out ▸ FINQ.out⟩
    · obtain rfl : i = n := by omega
      rw [List.take_of_length_le (by rw [HLEN.out]; exact Nat.le_refl _)] at hj
      have FIN := Lib.hid hj.fin
      clear hj
      go_wp2_with fail
      go_ret
      exact FIN.out
end Go.Proofs.YtekcjoogggoijaaGreatDoor
namespace Go.Proofs.YtekcjoogggoijaaGreatDoor
open Go.RowKit
set_option maxRecDepth 100000

/-- Those of M that are over are taken away, one after the other. -/
def sweepN (now : Int) (U M : List It) : List It := M.foldl (fun U x => if overB now x then delL U x.key else U) U
theorem sweepN_filter (now : Int) : ∀ (M U : List It), sweepN now U M = U.filter (fun y => !(M.any fun x => overB now x && decide (x.key = y.key)))
  | [], U => (List.filter_eq_self.2 (fun _ _ => rfl)).symm
  | x :: M, U => by
    have h := sweepN_filter now M (if overB now x then delL U x.key else U)
    have e : sweepN now U (x :: M) = sweepN now (if overB now x then delL U x.key else U) M := rfl
    rw [e, h]
    by_cases ho : overB now x = true
    · rw [if_pos ho]
      unfold delL
      rw [List.filter_filter]
      apply List.filter_congr
      intro y _
      rw [List.any_cons, ho]
      by_cases hk : x.key = y.key
      · simp [hk]
      · have : ¬ y.key = x.key := fun e => hk e.symm
        simp [hk, this]
    · have ho' : overB now x = false := by simpa using ho
      rw [if_neg ho]
      apply List.filter_congr
      intro y _
      rw [List.any_cons, ho']
      simp
theorem sweepN_take (now : Int) (U L : List It) {i : Nat} (hi : i < L.length) : sweepN now U (L.take (i + 1)) = if overB now L[i] then delL (sweepN now U (L.take i)) L[i].key else sweepN now U (L.take i) := by
  unfold sweepN
  rw [List.take_succ_eq_append_getElem hi, List.foldl_append]
  rfl
theorem itemsL_mem {U : List It} (hn : (keys U).Nodup) {x : It} : x ∈ itemsL U ↔ x ∈ U := by
  unfold itemsL
  rw [List.mem_map]
  constructor
  · rintro ⟨k, hk, rfl⟩
    have h1 := (sortB_perm (keys U)).mem_iff.1 hk
    unfold keys at h1
    obtain ⟨y, hy, rfl⟩ := List.mem_map.1 h1
    rw [(look_mem hn).2 ⟨hy, rfl⟩]
    exact hy
  · intro h
    refine ⟨x.key, (sortB_perm (keys U)).mem_iff.2 (List.mem_map.2 ⟨x, h, rfl⟩), ?_⟩
    rw [(look_mem hn).2 ⟨h, rfl⟩]
    rfl
theorem sweepN_items {U : List It} (hn : (keys U).Nodup) (now : Int) : sweepN now U (itemsL U) = sweepC now U := by
  rw [sweepN_filter]
  unfold sweepC
  apply List.filter_congr
  intro y hy
  congr 1
  rw [Bool.eq_iff_iff, List.any_eq_true]
  constructor
  · rintro ⟨x, hx, h⟩
    rw [Bool.and_eq_true, decide_eq_true_iff] at h
    have h1 := (itemsL_mem hn).1 hx
    have h2 := (look_mem hn).2 ⟨h1, h.2⟩
    have h3 := (look_mem hn).2 ⟨hy, rfl⟩
    rw [h2] at h3
    injection h3 with h3
    rw [← h3]
    exact h.1
  · intro h
    exact ⟨y, (itemsL_mem hn).2 hy, by rw [h]; simp⟩

/-- A cache, and a slice of items that is none of its own. -/
def Beside (w0 : World) (c : Nat) (O0 : Nat → Prop) (s : CSt) (v : Value) (n : Nat) (L : List It) (wr : World) : Prop :=
  ∃ O', CS wr c O' s ∧ Grew O0 w0 O' wr ∧ Sl wr 44 4 n v (flat L) ∧ ∀ k, v.ownBlock = some k → ¬ O' k
theorem Beside.kept0 {w0 wr w' : World} {c : Nat} {O0 : Nat → Prop} {s : CSt} {v : Value} {n : Nat} {L : List It} (h : Beside w0 c O0 s v n L wr) (hk : Kept (fun _ => False) wr w') : Beside w0 c O0 s v n L w' := by
  obtain ⟨O', h1, h2, h3, h4⟩ := h
  exact ⟨O', h1.kept0 hk, h2.kept hk, h3.kept hk (fun _ _ h => h), h4⟩
theorem Beside.del {w0 wr : World} {c : Nat} {O0 : Nat → Prop} {s : CSt} {v : Value} {n : Nat} {L : List It} (h : Beside w0 c O0 s v n L wr) (key : ByteArray) (hu : usedL s.U ≤ 10000000) (hkey : key.size ≤ 1000000) :
    Calls Tryz.prog 77 #[.pointer (some ⟨c, 0, none⟩), .string key] wr fun e w' => e = .returned (.tuple #[]) ∧ Beside w0 c O0 { s with U := delL s.U key } v n L w' := by
  obtain ⟨O', h1, h2, h3, h4⟩ := h
  refine (cdel c O' s key wr h1 hu hkey).mono ?_
  rintro e w' ⟨rfl, O'', g1, g2⟩
  exact ⟨rfl, O'', g1, h2.trans g2, h3.kept g2.1 (fun k e => h4 k e), fun k e hO => (g2.2 k hO).elim (h4 k e) (fun hh => by have := h3.lt e; omega)⟩

set_option maxHeartbeats 4000000 in
theorem csweep (c : Nat) (O : Nat → Prop) (s : CSt) (now : Int) (w : World) (h : CS w c O s) (hu : usedL s.U ≤ 3000000) (hkeys : ∀ x ∈ s.U, x.key.size ≤ 1000000) (h0 : 0 ≤ now) (h1 : now ≤ 1000000000000) (htil : ∀ x ∈ s.U, 0 ≤ x.til ∧ x.til ≤ 2000000000000) :
    Calls Tryz.prog 26 #[.pointer (some ⟨c, 0, none⟩), .int .i64 now] w fun e w' => e = .returned (.tuple #[]) ∧ Steps w c O { s with U := sweepC now s.U } w' := by
  have hge := usedL_ge s.U
  have hnd := h.nodup
  have hl : s.U.length ≤ 200000 := by omega
  have IT := Lib.hid (citems c O s w h hl hkeys)
  have MEM := Lib.hid (fun x (hx : x ∈ itemsL s.U) => (⟨hkeys x ((itemsL_mem hnd).1 hx), htil x ((itemsL_mem hnd).1 hx)⟩ : x.key.size ≤ 1000000 ∧ 0 ≤ x.til ∧ x.til ≤ 2000000000000))
  have FIN := Lib.hid (sweepN_items hnd now)
  have LEN := Lib.hid (itemsL_length s.U)
  have USED := Lib.hid (fun i => (by rw [sweepN_filter]; exact usedL_filter_le _ _ : usedL (sweepN now s.U ((itemsL s.U).take i)) ≤ usedL s.U))
  have TAKE := Lib.hid (fun i (hi : i < (itemsL s.U).length) => sweepN_take now s.U (itemsL s.U) hi)
  clear h hkeys htil hnd
  obtain ⟨n, hn⟩ : ∃ n, n = s.U.length := ⟨_, rfl⟩
  have IT2 := Lib.hid (show Calls Tryz.prog 11 #[.pointer (some ⟨c, 0, none⟩)] w (fun e w' => ∃ v O', e = .returned v ∧ CS w' c O' s ∧ Grew O w O' w' ∧ Sl w' 44 4 n v (flat (itemsL s.U)) ∧ (∀ k, v.ownBlock = some k → w.heap.size ≤ k ∧ ¬ O' k)) from by rw [hn]; exact IT.out)
  rw [← hn] at hl
  have HLEN := Lib.hid (LEN.out.trans hn.symm)
  clear IT LEN hn
  generalize itemsL s.U = L at *
  go_enter Tryz.func26, Tryz.ntmps26
  go_wp2_with fail
  refine IT2.out.mono ?_
  rintro e w1 ⟨v, O1, rfl, a1, a2, a3, a4⟩
  obtain ⟨ao, ca, rfl, hca⟩ := (Rd.of_sl a3).shape
  have ST : Hid (Beside w c O { s with U := sweepN now s.U (L.take 0) } (.slice ao n ca) n L w1) := Lib.hid ⟨O1, a1, a2, a3, fun k e => (a4 k e).2⟩
  clear a1 a2 a3 a4
  go_wp2_with fail
  go_loopg [9] n (fun gk k wr => ∃ i : Nat, i + gk = n ∧ k = .int .i64 (i : Int) ∧ Beside w c O { s with U := sweepN now s.U (L.take i) } (.slice ao n ca) n L wr)
  case atStart => exact ⟨0, by omega, rfl, ST.out⟩
  case round =>
    obtain ⟨i, hi', rfl, hj⟩ := hrel
    by_cases hlt : i < n
    · have hil : i < L.length := by rw [HLEN.out]; exact hlt
      have hsl : Sl wr 44 4 L.length (.slice ao n ca) (flat L) := by obtain ⟨O', _, _, h3, _⟩ := hj; rw [HLEN.out]; exact h3
      obtain ⟨g, off, rfl, x0, x1, x2, x3⟩ := rd_it (Rd.of_sl hsl) rfl i hil
      obtain ⟨k1, k2, k3⟩ := MEM.out _ (List.getElem_mem hil)
      have hus := USED.out i
      have hbox := hj.kept0 ((Kept.refl _ wr).alloc (itBox (L[i]'hil)))
      have hdel := hbox.del (L[i]'hil).key (by simp only; omega) k1
      have DEL := Lib.hid hdel
      have TK := Lib.hid (TAKE.out i hil)
      have BOX := Lib.hid hbox
      clear hj hsl hdel hbox hus
      generalize (L[i]'hil) = it at *
      by_cases ho : 0 < it.til
      · by_cases ho2 : it.til < now
        · have hov : overB now it = true := by unfold overB; rw [decide_eq_true ho, decide_eq_true ho2]; rfl
          rw [hov, if_pos rfl] at TK
          go_wp2_with fail
          refine DEL.out.mono ?_
          rintro e w3 ⟨rfl, hb⟩
          have HB := Lib.hid hb
          clear hb
          go_wp2_with fail
          go_roundg (gk - 1)
          case measure => omega
          case rel => exact ⟨i + 1, by omega, by go_num, by rw [TK.out]; exact HB.out⟩
        · have hov : overB now it = false := by unfold overB; rw [decide_eq_false ho2]; simp
          rw [hov] at TK
          go_wp2_with fail
          go_roundg (gk - 1)
          case measure => omega
          case rel => exact ⟨i + 1, by omega, by go_num, by rw [TK.out]; exact BOX.out⟩
      · have hov : overB now it = false := by unfold overB; rw [decide_eq_false ho]; simp
        rw [hov] at TK
        go_wp2_with fail
        go_roundg (gk - 1)
        case measure => omega
        case rel => exact ⟨i + 1, by omega, by go_num, by rw [TK.out]; exact BOX.out⟩
    · obtain rfl : i = n := by omega
      rw [List.take_of_length_le (by rw [HLEN.out]; exact Nat.le_refl _), FIN.out] at hj
      have HJ := Lib.hid hj
      clear hj
      go_wp2_with fail
      go_end0
      obtain ⟨O', h1, h2, _⟩ := HJ.out
      exact ⟨rfl, O', h1, h2⟩
end Go.Proofs.YtekcjoogggoijaaGreatDoor
