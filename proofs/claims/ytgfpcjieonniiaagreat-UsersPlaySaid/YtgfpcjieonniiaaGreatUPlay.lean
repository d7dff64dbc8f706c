/-
  The law UsersPlay: plain laws on users that are kept twice over, by the program and by the reference, beside the Book.
-/
import Derived.Test.YtgfpcjieonniiaaGreatRefBooks
import Derived.Test.YtgfpcjieonniiaaGreatBkHasTexts
import Derived.Test.YtgfpcjieonniiaaGreatUserF
import Derived.Test.YtgfpcjieonniiaaGreatUserNil
import Derived.Test.YtgfpcjieonniiaaGreatTri
import Derived.Deep.Upon
namespace Go.Proofs.YtgfpcjieonniiaaGreat
set_option linter.unusedVariables false
set_option linter.unusedSimpArgs false
set_option linter.unnecessarySimpa false
open Go.RowKit Go.Maps
set_option maxRecDepth 100000

/-- append of nothing, in a drawing region. -/
theorem step_append0 {P : Program} {ops : Array Oper} {o : Oper} {a : Act} {Q : Exit → Act → World → Prop} {K : Act → World → Prop} (w : World) {E' : Prop} (hg : o.guard = none) (s x : Operand) (t : TypeId) (hop : o.op = Op.call { callee := Callee.builtin Builtin.append, args := #[s, x], argTypes := #[t, t] })
    (e : TypeId) (i : TypeInfo) (h1 : P.underlying t = some (.slice e)) (h2 : P.info? e = some i) (hs : a.eval s = .slice none 0 0) (ao : Option Addr) (c : Nat) (hx : a.eval x = .slice ao 0 c)
    (hK : K (a.put o.dst (.slice none 0 0)) w) : if Region.wanted o (yielded ops a.tmps) = true then Oper.wp P o a w K Q else E' := by
  have hw : Region.wanted o (yielded ops a.tmps) = true := by simp [Region.wanted, hg]
  rw [if_pos hw]
  have hrun := run_append_nothing (P := P) w t t o.type e i h1 h2 none 0 0 (Nat.le_refl _) (.slice ao 0 c) (by
    cases ao with
    | none => exact Src.ofNil w h1 c
    | some ad => exact Src.ofSlice w h1 ad 0 c [] (by simp) (fun j u h => by simp at h) (fun u h => by cases h))
  unfold Oper.wp
  simp [execOp, hop, resolve, invoke, builtin, hs, hx, hrun, Result.andThen]
  exact hK

set_option maxHeartbeats 4000000 in
theorem books_none (ao : Option Addr) (ca : Nat) (w : World) :
    Calls Tryz.prog 10 #[.slice ao 0 ca] w fun e w' => ∃ rb G vL vF vU vK, e = .returned (.pointer (some ⟨rb, 0, none⟩)) ∧ RefAt w' rb G vL vF vU vK [] ∧ Kept (fun _ => False) w w' ∧ ∀ k, G k → w.heap.size ≤ k := by
  obtain ⟨i0, hi0, hz0, hz1, hz2⟩ := info_parts usr_info
  obtain ⟨i1, hi1, kz0, kz1, kz2⟩ := info_parts intR_info
  obtain ⟨i2, hi2, bz0, bz1, bz2⟩ := info_parts boolR_info
  have hmk := fun W => run_make (P := Tryz.prog) W 52 3 i1 _ Tryz.underlying52 hi1 kz0 .i64 .i64 (0 : Int) (0 : Int) (by omega) (Int.le_refl _) (by rw [kz2]; omega) (by omega)
  have hmb := fun W => run_make (P := Tryz.prog) W 53 4 i2 _ Tryz.underlying53 hi2 bz0 .i64 .i64 (0 : Int) (0 : Int) (by omega) (Int.le_refl _) (by rw [bz2]; omega) (by omega)
  simp at hmk hmb
  have hmi : (madeCells (Value.int .i64 0).cells 0).toList = List.replicate 0 (.int .i64 0) := made_int 0
  have hmb2 : (madeCells (Value.bool false).cells 0).toList = List.replicate 0 (.bool false) := made_bool 0
  have HMI := Lib.hid hmi
  have HMB := Lib.hid hmb2
  clear hmi hmb2
  have hmx : 0 ≤ maxLen := Nat.zero_le _
  generalize madeCells (Value.int .i64 0).cells 0 = mi at *
  generalize madeCells (Value.bool false).cells 0 = mb at *
  go_enter Tryz.func10, Tryz.ntmps10
  go_wp2_with fail
  go_region_law (refine step_append0 _ rfl (.const (.slice none 0 0)) (.tmp 3) 22 rfl 32 i0 Tryz.underlying22 hi0 (by kernel_rfl) ao ca (by kernel_rfl) ?_)
  all_goals
    go_wp2_with fail
    go_ret
    refine ⟨_, _, _, _, _, _, rfl, ⟨alloc_at _ _ _ (by first | rfl | simp), ?_, ?_, ?_, ?_, fun k => Iff.rfl, ?_, ?_, ?_⟩, ?_, ?_⟩
    · exact Sl.nil _ _ _
    · repeat (first | (refine made_row _ _ 0 mi HMI.out hmx _ ?_; first | rfl | (simp; done)) | refine Sl.alloc ?_ _)
    · repeat (first | (refine made_row _ _ 0 mi HMI.out hmx _ ?_; first | rfl | (simp; done)) | refine Sl.alloc ?_ _)
    · repeat (first | (refine made_row _ _ 0 mb HMB.out hmx _ ?_; first | rfl | (simp; done)) | refine Sl.alloc ?_ _)
    · intro k hk
      simp only [Value.ownBlock, Option.some.injEq, ne_eq] at hk ⊢
      simp
      omega
    · intro k hk
      simp only [Value.ownBlock, Option.some.injEq, ne_eq] at hk ⊢
      simp
      omega
    · intro k hk
      simp only [Value.ownBlock, Option.some.injEq, ne_eq] at hk ⊢
      simp
      omega
    · repeat (first | exact (Kept.refl _ _).drew | exact Kept.refl _ _ | refine Kept.alloc ?_ _ | refine Kept.drew ?_)
    · intro k hk
      simp [Value.ownBlock] at hk
      omega

theorem unfailed_of_made {B : Nat} {l : List (ByteArray × ByteArray)} {L : List Usr} (h : Made B l L) : L.length = l.length ∧ Unfailed L l ∧ ∀ x ∈ L, 0 ≤ x.fails ∧ x.fails < 3 := by
  obtain ⟨h1, h2⟩ := h
  refine ⟨by rw [← h1, List.length_map], ⟨?_, ?_, ?_, ?_⟩, fun x hx => ?_⟩
  · rw [← h1, List.flatMap_map]
    rfl
  · exact List.eq_replicate_iff.2 ⟨by simp, fun v hv => by
      obtain ⟨x, hx, rfl⟩ := List.mem_map.1 hv
      rw [(h2 x hx).1]⟩
  · exact List.eq_replicate_iff.2 ⟨by simp, fun v hv => by
      obtain ⟨x, hx, rfl⟩ := List.mem_map.1 hv
      rw [(h2 x hx).2.2.1]⟩
  · exact List.eq_replicate_iff.2 ⟨by simp, fun v hv => by
      obtain ⟨x, hx, rfl⟩ := List.mem_map.1 hv
      rw [(h2 x hx).2.1]⟩
  · rw [(h2 x hx).1]
    omega

/-- Books, of whatever users. -/
theorem books_all (v : Value) (l : List (ByteArray × ByteArray)) (w : World) (hl : Rd w 2 l.length v (l.flatMap userCells)) (hn : l.length ≤ 1000) (L : List Usr) (hL : L.length = l.length) (hU : Unfailed L l) :
    Calls Tryz.prog 10 #[v] w fun e w' => ∃ rb G vL vF vU vK, e = .returned (.pointer (some ⟨rb, 0, none⟩)) ∧ RefAt w' rb G vL vF vU vK L ∧ Kept (fun _ => False) w w' ∧ ∀ k, G k → w.heap.size ≤ k := by
  rcases Nat.eq_zero_or_pos l.length with h0 | h0
  · obtain ⟨ao, ca, rfl, _⟩ := hl.shape
    have : L = [] := List.length_eq_zero_iff.1 (by omega)
    subst this
    rw [h0]
    exact books_none ao ca w
  · exact books_any v l w hl hn h0 L hL hU

theorem turn_set {L : List Usr} {i : Nat} {x x' : Usr} (ha : (L.map (·.blk)).Nodup) (hx : L[i]? = some x) (hb : x'.blk = x.blk) : turn L x' = L.set i x' := by
  obtain ⟨hi, hxi⟩ := List.getElem?_eq_some_iff.1 hx
  apply List.ext_getElem?
  intro j
  unfold turn
  rw [List.getElem?_map, List.getElem?_set]
  by_cases e : i = j
  · subst e
    rw [if_pos rfl, if_pos hi, hx]
    simp [hb]
  · rw [if_neg e]
    cases hj : L[j]? with
    | none => rfl
    | some y =>
      simp only [Option.map_some]
      rw [if_neg]
      intro hy
      obtain ⟨hjl, hyj⟩ := List.getElem?_eq_some_iff.1 hj
      have hp := List.pairwise_iff_getElem.1 ha
      rcases Nat.lt_or_gt_of_ne e with h | h
      · exact hp i j (by simpa using hi) (by simpa using hjl) h (by simp only [List.getElem_map]; rw [hxi, hyj, hy, hb])
      · exact hp j i (by simpa using hjl) (by simpa using hi) h (by simp only [List.getElem_map]; rw [hxi, hyj, hy, hb])

theorem at_of_find {L : List Usr} {n : ByteArray} {x : Usr} (h : findU L n = some x) : ∃ i, At L n i x := by
  obtain ⟨hp, i, hi, he, hj⟩ := List.find?_eq_some_iff_getElem.1 h
  refine ⟨i, by rw [List.getElem?_eq_getElem hi, he], bytes_ext (by simpa using hp), fun j hjl hji e => ?_⟩
  have := hj j hji
  rw [e] at this
  simp at this
theorem not_of_find {L : List Usr} {n : ByteArray} (h : findU L n = none) (j : Nat) (hj : j < L.length) : (L[j]).name ≠ n := by
  intro e
  have := List.find?_eq_none.1 h _ (List.getElem_mem hj)
  rw [e] at this
  simp at this
theorem find_of_mem {L : List Usr} {n : ByteArray} (h : n ∈ L.map (·.name)) : ∃ x, findU L n = some x := by
  cases hf : findU L n with
  | some x => exact ⟨x, rfl⟩
  | none =>
    obtain ⟨x, hx, e⟩ := List.mem_map.1 h
    obtain ⟨j, hj, rfl⟩ := List.mem_iff_getElem.1 hx
    exact absurd e (not_of_find hf j hj)

/-- Users of the program and of the reference, the Book: of the call's own, sharing no block. -/
structure PlayU (w wr : World) (b m rb kb : Nat) (G F : Nat → Prop) (vL vF vU vK : Value) (L : List Usr) (Ls : List (List ByteArray)) : Prop where
  us : UsersAt wr b m L
  ref : RefAt wr rb G vL vF vU vK L
  book : BookHas wr kb F Ls
  tri : Tri w wr (usersF b m L) G F
  ok : ∀ x ∈ L, 0 ≤ x.fails ∧ x.fails < 3
  few : L.length ≤ 20
/-- The program's users have turned, the reference's have not yet. -/
structure HalfU (w wr : World) (b m rb kb : Nat) (G F : Nat → Prop) (vL vF vU vK : Value) (L L' : List Usr) (Ls : List (List ByteArray)) : Prop where
  us : UsersAt wr b m L'
  ref : RefAt wr rb G vL vF vU vK L
  book : BookHas wr kb F Ls
  tri : Tri w wr (usersF b m L') G F
  few : L.length ≤ 20

section
variable {w wr w2 w3 : World} {b m rb kb : Nat} {G F : Nat → Prop} {vL vF vU vK : Value} {L L' : List Usr} {Ls : List (List ByteArray)}
theorem PlayU.keep (h : PlayU w wr b m rb kb G F vL vF vU vK L Ls) (hk : Kept (fun _ => False) wr w2) : PlayU w w2 b m rb kb G F vL vF vU vK L Ls :=
  ⟨h.us.kept hk (fun _ _ h => h), h.ref.kept hk (fun _ _ h => h), h.book.kept hk (fun _ _ h => h), h.tri.keep hk, h.ok, h.few⟩
theorem half_of {x x' : Usr} {i : Nat} (h : PlayU w wr b m rb kb G F vL vF vU vK L Ls) (hx : L[i]? = some x) (hb : x'.blk = x.blk) (hf : Failed wr w2 b m L x x') : HalfU w w2 b m rb kb G F vL vF vU vK L (L.set i x') Ls := by
  obtain ⟨h1, h2⟩ := hf
  have hmem : x ∈ L := List.mem_of_getElem? hx
  have hS : ∀ k, k = x.blk → usersF b m L k := fun k hk => .inr (.inr ⟨x, hmem, hk.symm⟩)
  have ht := h.tri.turn1 (A' := usersF b m (turn L x')) (h2.mono (fun k _ hk => hS k hk)) (fun k hk => .inl (turn_F hmem hb hk)) (fun k hk => h1.lt hk)
  rw [turn_set h.us.apart hx hb] at h1 ht
  exact ⟨h1, h.ref.kept h2 (fun k hG e => h.tri.ab k (hS k e) hG), h.book.kept h2 (fun k hF e => h.tri.ac k (hS k e) hF), ht, h.few⟩
theorem full_of {x' : Usr} {i : Nat} (h : PlayU w wr b m rb kb G F vL vF vU vK L Ls) (h2 : HalfU w w2 b m rb kb G F vL vF vU vK L (L.set i x') Ls) (hok : 0 ≤ x'.fails ∧ x'.fails < 3) (hr : RefAt w3 rb G vL vF vU vK (L.set i x')) (hk : Kept G w2 w3) :
    PlayU w w3 b m rb kb G F vL vF vU vK (L.set i x') Ls := by
  refine ⟨h2.us.kept hk (fun k hA hG => h2.tri.ab k hA hG), hr, h2.book.kept hk (fun k hF hG => h2.tri.bc k hG hF), h2.tri.turn2 hk (fun k hk => .inl hk) (fun k hk => hr.lt k hk), fun y hy => ?_, by rw [List.length_set]; exact h.few⟩
  rcases List.mem_or_eq_of_mem_set hy with e | rfl
  · exact h.ok y e
  · exact hok
theorem failed_ok {x : Usr} (now : Int) (h : 0 ≤ x.fails ∧ x.fails < 3) : 0 ≤ (failed x now).1.fails ∧ (failed x now).1.fails < 3 := by
  unfold failed
  split
  · simp only; omega
  · simp only; omega
/-- A box beside the users of both. -/
def Aside (wr : World) (b m : Nat) (G : Nat → Prop) (L : List Usr) (xb : Nat) (cs : Array Value) : Prop := wr.heap[xb]? = some (.cells cs 57 (0, 0)) ∧ ¬ usersF b m L xb ∧ ¬ G xb
theorem Aside.new (h : PlayU w wr b m rb kb G F vL vF vU vK L Ls) (cs : Array Value) : Aside (wr.alloc (.cells cs 57)) b m G L wr.heap.size cs :=
  ⟨heap_alloc_new _ _, fun e => by have := h.us.lt e; omega, fun e => by have := h.ref.lt _ e; omega⟩
theorem Aside.keep {xb : Nat} {cs : Array Value} (h : Aside wr b m G L xb cs) (hk : Kept (fun _ => False) wr w2) : Aside w2 b m G L xb cs := ⟨(hk.block xb (lt_of_block h.1) (fun e => e)).trans h.1, h.2⟩
theorem Aside.half {x x' : Usr} {i : Nat} {xb : Nat} {cs : Array Value} (h : PlayU w wr b m rb kb G F vL vF vU vK L Ls) (hx : L[i]? = some x) (hb : x'.blk = x.blk) (hf : Failed wr w2 b m L x x') (ha : Aside wr b m G L xb cs) : Aside w2 b m G (L.set i x') xb cs := by
  have hmem : x ∈ L := List.mem_of_getElem? hx
  refine ⟨(hf.2.block xb (lt_of_block ha.1) (fun e => ha.2.1 (.inr (.inr ⟨x, hmem, e.symm⟩)))).trans ha.1, fun e => ha.2.1 ?_, ha.2.2⟩
  rw [← turn_set h.us.apart hx hb] at e
  exact turn_F hmem hb e
theorem Aside.full {xb : Nat} {cs : Array Value} (ha : Aside w2 b m G L' xb cs) (hk : Kept G w2 w3) : Aside w3 b m G L' xb cs := ⟨(hk.block xb (lt_of_block ha.1) ha.2.2).trans ha.1, ha.2⟩
theorem Aside.cells {xb : Nat} {k n : Int} {s : ByteArray} (h : Aside wr b m G L xb #[.int .i64 k, .int .i64 n, .string s]) : wr.cell? ⟨xb, 0, none⟩ = some (.int .i64 k) ∧ wr.cell? ⟨xb, 1, none⟩ = some (.int .i64 n) ∧ wr.cell? ⟨xb, 2, none⟩ = some (.string s) :=
  ⟨cell_at h.1 0, cell_at h.1 1, cell_at h.1 2⟩
/-- Fail of the program, then of the reference. -/
theorem PlayU.failed (h : PlayU w wr b m rb kb G F vL vF vU vK L Ls) {n : ByteArray} (hn : n.size ≤ maxLen) {x : Usr} {i : Nat} (hf : findU L n = some x) (ha : At L n i x) {now : Int} (n0 : -9223372036854775808 ≤ now) (n1 : now ≤ 9223372036854775807) :
    ∃ x' r, (Calls Tryz.prog 15 #[.pointer (some ⟨b, 0, none⟩), .string n, .int .i64 now] wr fun e w' => e = .returned (.bool r) ∧ HalfU w w' b m rb kb G F vL vF vU vK L (L.set i x') Ls ∧ ∀ xb cs, Aside wr b m G L xb cs → Aside w' b m G (L.set i x') xb cs) ∧
      ∀ w2, HalfU w w2 b m rb kb G F vL vF vU vK L (L.set i x') Ls → Calls Tryz.prog 16 #[.pointer (some ⟨rb, 0, none⟩), .string n, .int .i64 now] w2 fun e w' => e = .returned (.bool r) ∧ PlayU w w' b m rb kb G F vL vF vU vK (L.set i x') Ls ∧ ∀ xb cs, Aside w2 b m G (L.set i x') xb cs → Aside w' b m G (L.set i x') xb cs := by
  have ho := h.ok x (List.mem_of_getElem? ha.here)
  refine ⟨(Go.Proofs.YtgfpcjieonniiaaGreat.failed x now).1, (Go.Proofs.YtgfpcjieonniiaaGreat.failed x now).2, ?_, fun w2 h2 => ?_⟩
  · exact (fail_any b m L n x now wr h.us hn hf ho.1 ho.2 n0 n1).mono fun e w' ⟨he, hh⟩ => ⟨he, half_of h ha.here (failed_blk x now) hh, fun xb cs hs => Aside.half h ha.here (failed_blk x now) hh hs⟩
  · exact (ref_fail_some now h2.ref (by have := h.few; omega) ha ho.1 ho.2 n0 n1).mono fun e w' ⟨he, hr, hk⟩ => ⟨he, full_of h h2 (failed_ok now ho) hr hk, fun xb cs hs => hs.full hk⟩
theorem PlayU.good (h : PlayU w wr b m rb kb G F vL vF vU vK L Ls) {n : ByteArray} (hn : n.size ≤ maxLen) {x : Usr} {i : Nat} (hf : findU L n = some x) (ha : At L n i x) :
    ∃ x' : Usr, (Calls Tryz.prog 17 #[.pointer (some ⟨b, 0, none⟩), .string n] wr fun e w' => e = .returned (.tuple #[]) ∧ HalfU w w' b m rb kb G F vL vF vU vK L (L.set i x') Ls ∧ ∀ xb cs, Aside wr b m G L xb cs → Aside w' b m G (L.set i x') xb cs) ∧
      ∀ w2, HalfU w w2 b m rb kb G F vL vF vU vK L (L.set i x') Ls → Calls Tryz.prog 18 #[.pointer (some ⟨rb, 0, none⟩), .string n] w2 fun e w' => e = .returned (.tuple #[]) ∧ PlayU w w' b m rb kb G F vL vF vU vK (L.set i x') Ls ∧ ∀ xb cs, Aside w2 b m G (L.set i x') xb cs → Aside w' b m G (L.set i x') xb cs := by
  refine ⟨{ x with fails := 0 }, ?_, fun w2 h2 => ?_⟩
  · exact (good_any b m L n x wr h.us hn hf).mono fun e w' ⟨he, hh⟩ => ⟨he, half_of h ha.here rfl hh, fun xb cs hs => Aside.half h ha.here rfl hh hs⟩
  · exact (ref_good_some h2.ref (by have := h.few; omega) ha).mono fun e w' ⟨he, hr, hk⟩ => ⟨he, full_of h h2 (by simp only; omega) hr hk, fun xb cs hs => hs.full hk⟩
/-- Fail, Good of one who is not there. -/
theorem PlayU.failed_no (h : PlayU w wr b m rb kb G F vL vF vU vK L Ls) {n : ByteArray} (hn : n.size ≤ maxLen) (hf : findU L n = none) (now : Int) :
    (Calls Tryz.prog 15 #[.pointer (some ⟨b, 0, none⟩), .string n, .int .i64 now] wr fun e w' => e = .returned (.bool false) ∧ wr = w') ∧
      Calls Tryz.prog 16 #[.pointer (some ⟨rb, 0, none⟩), .string n, .int .i64 now] wr fun e w' => e = .returned (.bool false) ∧ wr = w' :=
  ⟨fail_none b m L n now wr h.us hn hf, ref_fail_none now h.ref (by have := h.few; omega) (not_of_find hf)⟩
theorem PlayU.good_no (h : PlayU w wr b m rb kb G F vL vF vU vK L Ls) {n : ByteArray} (hn : n.size ≤ maxLen) (hf : findU L n = none) :
    (Calls Tryz.prog 17 #[.pointer (some ⟨b, 0, none⟩), .string n] wr fun e w' => e = .returned (.tuple #[]) ∧ wr = w') ∧
      Calls Tryz.prog 18 #[.pointer (some ⟨rb, 0, none⟩), .string n] wr fun e w' => e = .returned (.tuple #[]) ∧ wr = w' :=
  ⟨good_none b m L n wr h.us hn hf, ref_good_none h.ref (by have := h.few; omega) (not_of_find hf)⟩
theorem PlayU.find (h : PlayU w wr b m rb kb G F vL vF vU vK L Ls) (n : ByteArray) : (findU L n = none ∧ ∀ (j : Nat) (hj : j < L.length), (L[j]).name ≠ n) ∨ ∃ x i, findU L n = some x ∧ At L n i x := by
  cases hf : findU L n with
  | none => exact .inl ⟨rfl, not_of_find hf⟩
  | some x =>
    obtain ⟨i, hi⟩ := at_of_find hf
    exact .inr ⟨x, i, rfl, hi⟩
/-- Both tell alike who is locked out. -/
theorem locked_both (L : List Usr) {n : ByteArray} (hn : n.size ≤ maxLen) :
    ∃ r : Int → Bool, ∀ (now : Int) {w wr : World} {b m rb kb : Nat} {G F : Nat → Prop} {vL vF vU vK : Value} {Ls : List (List ByteArray)}, PlayU w wr b m rb kb G F vL vF vU vK L Ls → (Calls Tryz.prog 19 #[.pointer (some ⟨b, 0, none⟩), .string n, .int .i64 now] wr fun e w' => e = .returned (.bool (r now)) ∧ wr = w') ∧
      Calls Tryz.prog 20 #[.pointer (some ⟨rb, 0, none⟩), .string n, .int .i64 now] wr fun e w' => e = .returned (.bool (r now)) ∧ wr = w' := by
  refine ⟨lockedB (findU L n), fun now {w wr b m rb kb G F vL vF vU vK Ls} h => ⟨locked_any b m L n now wr h.us hn, ?_⟩⟩
  rcases h.find n with ⟨h1, h2⟩ | ⟨x, i, h1, h2⟩
  · rw [h1]
    exact ref_locked_none now h.ref (by have := h.few; omega) h2
  · rw [h1]
    exact ref_locked_some now h.ref (by have := h.few; omega) h2
/-- One more list in the Book. -/
theorem PlayU.one {w5 w6 : World} (h : PlayU w wr b m rb kb G F vL vF vU vK L Ls) (hk : Kept (fun _ => False) wr w5) {u : Value} {K : List ByteArray} (hu : ∀ k, u.ownBlock = some k → wr.heap.size ≤ k) {F' : Nat → Prop} (h1 : BookHas w6 kb F' (Ls ++ [K])) (h2 : Kept F w5 w6) (h3 : ∀ k, F' k → F k ∨ u.ownBlock = some k ∨ w5.heap.size ≤ k) :
    PlayU w w6 b m rb kb G F' vL vF vU vK L (Ls ++ [K]) := by
  have hz := hk.size
  have hkk : Kept F wr w6 := (hk.mono (fun _ _ h => h.elim)).trans h2 (fun _ _ h => h)
  refine ⟨h.us.kept hkk (fun k hk e => h.tri.ac k hk e), h.ref.kept hkk (fun k hk e => h.tri.bc k hk e), h1, h.tri.turn3 hkk (fun k hk => ?_) (fun k hk => h1.lt k hk), h.ok, h.few⟩
  rcases h3 k hk with e | e | e
  · exact .inl e
  · exact .inr (hu k e)
  · exact .inr (by omega)
/-- The names, told and kept in the Book. -/
theorem PlayU.names (h : PlayU w wr b m rb kb G F vL vF vU vK L Ls) :
    Calls Tryz.prog 12 #[.pointer (some ⟨b, 0, none⟩)] wr fun e w' => ∃ ao ca, e = .returned (.slice ao L.length ca) ∧ Sl w' 9 1 L.length (.slice ao L.length ca) ((sortB (L.map (·.name))).map Value.string) ∧ Kept (fun _ => False) wr w' ∧ ∀ k, (Value.slice ao L.length ca).ownBlock = some k → wr.heap.size ≤ k :=
  (names_full b m L wr h.us (by have := h.few; omega)).mono fun e w' ⟨v, he, h1, h2, h3⟩ => by
    rw [List.length_map] at h1
    obtain ⟨ao, ca, rfl, _⟩ := (Rd.of_sl h1).shape
    exact ⟨ao, ca, he, h1, h2, h3⟩
theorem PlayU.keepBook (h : PlayU w wr b m rb kb G F vL vF vU vK L Ls) {w5 : World} {ao : Option Addr} {ca : Nat} (h1 : Sl w5 9 1 L.length (.slice ao L.length ca) ((sortB (L.map (·.name))).map Value.string)) (h2 : Kept (fun _ => False) wr w5) (h3 : ∀ k, (Value.slice ao L.length ca).ownBlock = some k → wr.heap.size ≤ k) (hn : Ls.length < 250) :
    Calls Tryz.prog 11 #[.pointer (some ⟨kb, 0, none⟩), .slice ao L.length ca] w5 fun e w' => e = .returned (.tuple #[]) ∧ ∃ F' Ls', PlayU w w' b m rb kb G F' vL vF vU vK L Ls' ∧ Ls'.length = Ls.length + 1 := by
  have hl : (sortB (L.map (·.name))).length = L.length := by rw [sortB_length, List.length_map]
  have hf := h.few
  have := (h.keep h2).book.keepTexts (.slice ao L.length ca) (sortB (L.map (·.name))) (by rw [hl]; exact h1) (fun k hk e => by have := h3 k hk; have := h.tri.lt k (.inr (.inr e)); omega) hn (by omega)
  refine this.mono fun e w' ⟨he, F', h4, h5, h6⟩ => ⟨he, F', _, h.one h2 h3 h4 h5 h6, by simp⟩
/-- The start. -/
theorem PlayU.start {w4 : World} (h : OwnU w w3 b m L) (hr : RefAt w4 rb G vL vF vU vK L) (hk : Kept (fun _ => False) w3 w4) (hG : ∀ k, G k → w3.heap.size ≤ k) (hok : ∀ x ∈ L, 0 ≤ x.fails ∧ x.fails < 3) (hl : L.length ≤ 20) (h2 : w2 = w4.alloc (.cells (bookArr (.slice none 0 0) (.slice none 0 0)) 45)) :
    PlayU w w2 b m rb w4.heap.size G (fun k => k = w4.heap.size) vL vF vU vK L [] := by
  subst h2
  obtain ⟨h1, h2, h3⟩ := h
  have hz := h2.size
  have hz4 := hk.size
  have kA : Kept (fun _ => False) w4 (w4.alloc (.cells (bookArr (.slice none 0 0) (.slice none 0 0)) 45)) := (Kept.refl _ _).alloc _
  have bC := BookHas.new w4
  have hzA : (w4.alloc (.cells (bookArr (.slice none 0 0) (.slice none 0 0)) 45)).heap.size = w4.heap.size + 1 := by simp
  generalize w4.alloc (.cells (bookArr (.slice none 0 0) (.slice none 0 0)) 45) = wA at *
  have u4 := (h1.kept hk (fun _ _ h => h)).kept kA (fun _ _ h => h)
  have r4 := hr.kept kA (fun _ _ h => h)
  refine ⟨u4, r4, bC, ⟨(h2.trans hk (fun _ _ h => h)).trans kA (fun _ _ h => h), fun k hk => ?_, fun k hk => ?_, fun k ha hb => ?_, fun k ha hc => ?_, fun k hb hc => ?_⟩, hok, hl⟩
  · rcases hk with e | e | e
    · exact h3 k e
    · have := hG k e; omega
    · omega
  · rcases hk with e | e | e
    · exact u4.lt e
    · exact r4.lt k e
    · omega
  · have := h1.lt ha; have := hG k hb; omega
  · have := h1.lt ha; omega
  · have := hr.lt k hb; omega
end
end Go.Proofs.YtgfpcjieonniiaaGreat
