/-
  RingPlays' walk: it returns true, whatever the number and the notes.
-/
import Derived.Test.YthchacmkeppjcaaBookNotesH
import Derived.Lib.MinMax
namespace Go.Proofs.Ythchacmkeppjcaa
set_option linter.unusedVariables false
set_option linter.unusedSimpArgs false
set_option linter.unnecessarySimpa false
open Go.RowKit

/-- A nil ring. -/
theorem add_nil (a : Array Value) (w : World) : Calls Try.prog 9 #[.pointer none, .agg a] w fun e w' => e = .returned (.tuple #[]) ∧ ∃ o, w' = w.alloc o := by
  go_enter Try.func9, Try.ntmps9
  go_wp2_with fail
  refine bodyPost_ret (results_none rfl _ _ _) rfl ?_
  exact ⟨rfl, _, rfl⟩
theorem last_nil (w : World) : Calls Try.prog 10 #[.pointer none] w fun e w' => e = .returned (.slice none 0 0) ∧ w = w' := by
  go_enter Try.func10, Try.ntmps10
  go_wp2_with fail
  go_ret
  exact ⟨rfl, rfl⟩
theorem total_nil (w : World) : Calls Try.prog 13 #[.pointer none] w fun e w' => e = .returned (.int .i64 0) ∧ w = w' := by
  go_enter Try.func13, Try.ntmps13
  go_wp2_with fail
  go_ret
  exact ⟨rfl, rfl⟩
theorem len_nil (w : World) : Calls Try.prog 14 #[.pointer none] w fun e w' => e = .returned (.int .i64 0) ∧ w = w' := by
  go_enter Try.func14, Try.ntmps14
  go_wp2_with fail
  go_ret
  exact ⟨rfl, rfl⟩

theorem flat_take (l : List Note) (k : Nat) : flat (l.take k) = (flat l).take (k * 4) := by
  by_cases h : k ≤ l.length
  · have e : flat l = flat (l.take k) ++ flat (l.drop k) := by rw [← flat_append, List.take_append_drop]
    rw [e, List.take_left' (by rw [flat_length, List.length_take]; omega)]
  · rw [List.take_of_length_le (by omega), List.take_of_length_le (by rw [flat_length]; omega)]
theorem flat_cut (l : List Note) (lo n : Nat) : ((flat l).drop (lo * 4)).take (n * 4) = flat ((l.drop lo).take n) := by rw [flat_take, flat_drop]

/-- The block of a Book that holds notes alone. -/
def bookArr (V C : Value) : Array Value := #[.slice none 0 0, .slice none 0 0, .slice none 0 0, .slice none 0 0, .slice none 0 0, .slice none 0 0, V, C, .slice none 0 0, .slice none 0 0, .slice none 0 0, .slice none 0 0, .slice none 0 0, .slice none 0 0]

/-- A ring and a Book of the call's own that share no block. -/
structure Play (w wr : World) (a b : Nat) (most : Int) (hist : List Note) (Ls : List (List Note)) (v : Value) (F1 F2 : Nat → Prop) (V C : Value) (vs cs : List Value) (len : Nat → Nat) (con : Nat → List Value) : Prop where
  ring : RingHas wr a most hist v
  book : Kb wr 22 38 4 F1 F2 Ls.length V C vs cs len con
  lists : ∀ (i : Nat) (hi : i < Ls.length), len i = (Ls[i]).length ∧ con i = flat Ls[i]
  cells : wr.heap[b]? = some (.cells (bookArr V C) 35 (0, 0))
  out1 : ¬ F1 b
  out2 : ¬ F2 b
  kept : Kept (fun _ => False) w wr
  new : ∀ k, ringF a v k ∨ F1 k ∨ F2 k ∨ k = b → w.heap.size ≤ k
  dis : ∀ k, ringF a v k → ¬ F1 k ∧ ¬ F2 k ∧ k ≠ b

section
variable {w w1 w2 : World} {a b : Nat} {most : Int} {hist : List Note} {Ls : List (List Note)} {v : Value} {F1 F2 : Nat → Prop} {V C : Value} {vs cs : List Value} {len : Nat → Nat} {con : Nat → List Value}
theorem Play.keep (h : Play w w1 a b most hist Ls v F1 F2 V C vs cs len con) (hk : Kept (fun _ => False) w1 w2) : Play w w2 a b most hist Ls v F1 F2 V C vs cs len con :=
  ⟨h.ring.kept hk (fun _ _ h => h), h.book.kept hk (fun _ _ h => h), h.lists, (hk.block b (lt_of_block h.cells) (fun e => e)).trans h.cells, h.out1, h.out2, h.kept.trans hk (fun _ _ h => h), h.new, h.dis⟩
theorem Play.added (h : Play w w1 a b most hist Ls v F1 F2 V C vs cs len con) {x : Note} (ha : AddedHas w1 w2 a most hist v x) : ∃ v', Play w w2 a b most (hist ++ [x]) Ls v' F1 F2 V C vs cs len con := by
  obtain ⟨v', h1, h2, h3⟩ := ha
  have hlt := lt_of_block h.cells
  have hz := h.kept.size
  refine ⟨v', h1, h.book.kept h2 (fun k hk hr => ?_), h.lists, (h2.block b hlt (fun e => (h.dis b e).2.2 rfl)).trans h.cells, h.out1, h.out2, h.kept.trans h2 (fun i hi hs => ?_), fun k hk => ?_, fun k hk => ?_⟩
  · rcases hk with hk | hk
    · exact (h.dis k hr).1 hk
    · exact (h.dis k hr).2.1 hk
  · have := h.new i (.inl hs); omega
  · rcases hk with hk | hk
    · rcases h3 k hk with e | e
      · exact h.new k (.inl e)
      · omega
    · exact h.new k (.inr hk)
  · rcases h3 k hk with e | e
    · exact h.dis k e
    · exact ⟨fun hh => by have := h.book.v.lt k hh; omega, fun hh => by have := h.book.c.lt k hh; omega, fun hh => by omega⟩
theorem Play.one (h : Play w w1 a b most hist Ls v F1 F2 V C vs cs len con) {u : Value} {L : List Note} (hnew : ∀ k, u.ownBlock = some k → w.heap.size ≤ k) (hu : ∀ k, u.ownBlock = some k → ¬ ringF a v k)
    (hk : KeptOne w1 w2 22 38 4 35 b (bookArr V C) 6 7 F1 F2 Ls.length u L.length (flat L) len con) : ∃ G1 G2 V' C' vs' cs' len' con', Play w w2 a b most hist (Ls ++ [L]) v G1 G2 V' C' vs' cs' len' con' := by
  obtain ⟨G1, G2, V', C', vs', cs', h1, h2, h3, h4, h5, h6⟩ := hk
  have hz := h.kept.size
  refine ⟨G1, G2, V', C', vs', cs', _, _, h.ring.kept h5 (fun k hk hh => ?_), by rw [List.length_append]; exact h1, fun i hi => ?_, h2, h3, h4, h.kept.trans h5 (fun i hi hh => ?_), fun k hk => ?_, fun k hk => ?_⟩
  · have := h.dis k hk
    rcases hh with e | e | e
    · exact this.2.2 e
    · exact this.1 e
    · exact this.2.1 e
  · by_cases e : i = Ls.length
    · subst e
      simp
    · rw [List.length_append] at hi
      have hi' : i < Ls.length := by simp at hi; omega
      rw [if_neg e, if_neg e, List.getElem_append_left hi']
      exact h.lists i hi'
  · rcases hh with e | e | e
    · have := h.new i (.inr (.inr (.inr e))); omega
    · have := h.new i (.inr (.inl e)); omega
    · have := h.new i (.inr (.inr (.inl e))); omega
  · have go : G1 k ∨ G2 k → w.heap.size ≤ k := fun hg => by
      rcases h6 k hg with e | e | e | e
      · exact h.new k (.inr (.inl e))
      · exact h.new k (.inr (.inr (.inl e)))
      · exact hnew k e
      · omega
    rcases hk with e | e | e | e
    · exact h.new k (.inl e)
    · exact go (.inl e)
    · exact go (.inr e)
    · exact h.new k (.inr (.inr (.inr e)))
  · have hd := h.dis k hk
    have hlt := h.ring.lt hk
    have go : ¬ (G1 k ∨ G2 k) := fun hg => by
      rcases h6 k hg with e | e | e | e
      · exact hd.1 e
      · exact hd.2.1 e
      · exact hu k e hk
      · omega
    exact ⟨fun e => go (.inl e), fun e => go (.inr e), hd.2.2⟩
theorem Play.start {w3 : World} (hk : Kept (fun _ => False) w w1) (ha : a = w1.heap.size) (hr : RingHas w2 a most [] (.slice none 0 0)) (hk2 : Kept (fun _ => False) w1 w2) (hz : w1.heap.size < w2.heap.size) (hb : b = w2.heap.size)
    (h3 : w3 = w2.alloc (.cells (bookArr (.slice none 0 0) (.slice none 0 0)) 35)) : Play w w3 a b most [] [] (.slice none 0 0) (fun _ => False) (fun _ => False) (.slice none 0 0) (.slice none 0 0) [] [] (fun _ => 0) (fun _ => []) := by
  subst h3 ha hb
  have hz1 := hk.size
  have hk3 : Kept (fun _ => False) w2 (w2.alloc (.cells (bookArr (.slice none 0 0) (.slice none 0 0)) 35)) := (Kept.refl _ _).alloc _
  refine ⟨hr.kept hk3 (fun _ _ h => h), ⟨Kd.nil _ _ _ _ _ _, Kd.nil _ _ _ _ _ _, fun _ h => h.elim⟩, fun i hi => by simp at hi, heap_alloc_new _ _, fun h => h, fun h => h, (hk.trans hk2 (fun _ _ h => h)).trans hk3 (fun _ _ h => h), fun k hk => ?_, fun k hk => ⟨fun h => h, fun h => h, fun h => ?_⟩⟩
  · rcases hk with (rfl | hk) | hk | hk | rfl
    · omega
    · cases hk
    · exact hk.elim
    · exact hk.elim
    · omega
  · rcases hk with rfl | hk
    · omega
    · cases hk
end

theorem Play.apart {w wr : World} {a b : Nat} {most : Int} {hist : List Note} {Ls : List (List Note)} {v : Value} {F1 F2 : Nat → Prop} {V C : Value} {vs cs : List Value} {len : Nat → Nat} {con : Nat → List Value} (h : Play w wr a b most hist Ls v F1 F2 V C vs cs len con) {i : Nat} (hq : Ls.length * 10 ≤ i + 9) (hL : ∀ L ∈ Ls, L.length ≤ 50) (hi : i ≤ 200) :
    Calls Try.prog 15 #[.pointer (some ⟨b, 0, none⟩)] wr fun e w' => e = .returned (.bool true) ∧ Kept (fun _ => False) w w' := by
  have hc := fun o => cell_at h.cells o
  have hl : ∀ L ∈ Ls, L.length ≤ 90000 := fun L hL' => Nat.le_trans (hL L hL') (by omega)
  refine (apart_any b F1 F2 Ls.length V C vs cs len con Ls wr h.book rfl h.lists ⟨hc 0, hc 2, hc 4, hc 8, hc 10, hc 12, hc 6, hc 7⟩ h.out1 (by omega) (fun i hi => by rw [(h.lists i hi).1]; exact hl _ (List.getElem_mem hi)) hl).mono ?_
  rintro e w' ⟨rfl, hk⟩
  exact ⟨rfl, h.kept.trans hk (fun k hk hF => by have := h.new k (.inr (.inl hF)); omega)⟩

set_option maxRecDepth 100000 in
set_option maxHeartbeats 8000000 in
theorem ringPlays_walk (n : Int) (v : Value) (l : List Note) (w : World) (hn0 : -9223372036854775808 ≤ n) (hn1 : n ≤ 9223372036854775807) (hl : Rd w 4 l.length v (flat l)) :
    Calls Try.prog 3 #[.int .i64 n, v] w fun e w' => e = .returned (.bool true) ∧ Kept (fun _ => False) w w' := by
  obtain ⟨ao, cap, rfl, hcap⟩ := hl.shape
  have HL := Lib.hid hl
  clear hl
  obtain ⟨N, hN⟩ : ∃ N, N = l.length := ⟨_, rfl⟩
  rw [← hN] at hcap ⊢
  have HN := Lib.hid hN
  clear hN
  by_cases c1 : (200 : Int) < N
  · go_enter Try.func3, Try.ntmps3
    go_wp2_with (go_at_call 7; refine (alive_any _).mono ?_; rintro e w1 ⟨rfl, hk1⟩)
    go_ret
    exact ⟨rfl, hk1⟩
  have d1 : N ≤ 200 := by omega
  clear c1
  go_enter Try.func3, Try.ntmps3
  go_wp2_with fail
  refine (alive_any _).mono ?_
  rintro e w1 ⟨rfl, hk1⟩
  go_wp2_with fail
  refine (new_has n _ hn0 hn1).mono ?_
  rintro e w2 ⟨rfl, hr2, hk2, hz2⟩
  obtain ⟨m, hm⟩ : ∃ m : Int, m = min (max n 1) 50 := ⟨_, rfl⟩
  rw [← hm] at hr2
  obtain ⟨a, ha⟩ : ∃ a, a = w1.heap.size := ⟨_, rfl⟩
  obtain ⟨b, hb⟩ : ∃ b, b = w2.heap.size := ⟨_, rfl⟩
  rw [← ha] at hr2 ⊢
  have PL := Lib.hid (fun (w3 : World) h3 => Play.start (w3 := w3) hk1 ha hr2 hk2 hz2 hb h3)
  have HM := Lib.hid hm
  have m1 : 1 ≤ m := by omega
  have m2 : m ≤ 50 := by omega
  clear hr2 hk1 hk2 hz2 ha
  go_wp2_with fail
  rw [← hb, ← hm]
  have PL2 := PL.out _ rfl
  have HBB := Lib.hid hb
  clear PL hb hm
  go_loopg [8] N (fun gk k wr => ∃ i : Nat, i + gk = N ∧ k = .int .i64 (i : Int) ∧ ∃ Ls v F1 F2 V C vs cs len con, Play w wr a b m (l.take i) Ls v F1 F2 V C vs cs len con ∧ Ls.length * 10 ≤ i + 9 ∧ ∀ L ∈ Ls, L.length ≤ 50)
  case atStart => exact ⟨0, by omega, rfl, _, _, _, _, _, _, _, _, _, _, PL2, by simp, by simp⟩
  case round =>
    obtain ⟨i, hi, rfl, Ls, v, F1, F2, V, C, vs, cs, len, con, hp, hq, hL⟩ := hrel
    have hlen : (l.take i).length < 1000000 := by rw [List.length_take]; omega
    by_cases hlt : i < N
    · have hil : i < l.length := HN.out ▸ hlt
      obtain ⟨g, off, rfl, z0, z1, z2, z3⟩ := rd_note HL.out rfl i hil
      have HS := Lib.hid (show l.take (i + 1) = l.take i ++ [l[i]] by rw [List.take_succ_eq_append_getElem hil])
      have hlen1 : (l.take (i + 1)).length = i + 1 := by rw [List.length_take]; omega
      have HLEN := Lib.hid hlen1
      generalize l[i] = nt at *
      have x0 := hp.kept.cell0 z0
      have x1 := hp.kept.cell0 z1
      have x2 := hp.kept.cell0 z2
      have x3 := hp.kept.cell0 z3
      have HQ := Lib.hid hq
      have HLL := Lib.hid hL
      clear z0 z1 z2 z3 hq hL hlen1
      go_wp2_with fail
      refine (add_has a m _ v nt _ rfl _ hp.ring hlen).mono ?_
      rintro e w4 ⟨rfl, had⟩
      obtain ⟨v', hp4⟩ := hp.added had
      rw [← HS.out] at hp4
      clear had hp x0 x1 x2 x3 hlen
      go_wp2_with fail
      refine (last_has a m _ v' _ hp4.ring (by rw [HLEN.out]; omega)).mono ?_
      rintro e w5 ⟨u, rfl, hs, hk, hu⟩
      have hp5 := hp4.keep hk
      have hz4 := hp4.kept.size
      have hun : ∀ k, u.ownBlock = some k → w4.heap.size ≤ k := by
        intro k hk
        rcases hu with ⟨rfl, _⟩ | ⟨g, off, cap, rfl, hg⟩
        · cases hk
        · simp [Value.ownBlock] at hk
          omega
      have hfr : ∀ k, u.ownBlock = some k → ¬ ringF a v' k ∧ ¬ F1 k ∧ ¬ F2 k ∧ k ≠ b := fun k hk => by
        have h1 := hun k hk
        refine ⟨fun e => ?_, fun e => ?_, fun e => ?_, fun e => ?_⟩
        · have := hp4.ring.lt e; omega
        · have := hp4.book.v.lt k e; omega
        · have := hp4.book.c.lt k e; omega
        · have := lt_of_block hp4.cells; omega
      have hLlen := lastn_length m.toNat (l.take (i + 1))
      have HCUT := Lib.hid (show lastn m.toNat (l.take (i + 1)) = (l.drop (i + 1 - m.toNat)).take (i + 1 - (i + 1 - m.toNat)) by unfold lastn; rw [HLEN.out, List.drop_take])
      rw [HLEN.out] at hLlen
      generalize lastn m.toNat (l.take (i + 1)) = L at *
      have HLN := Lib.hid hLlen
      have hL50 : L.length ≤ 50 := by omega
      have HUN := Lib.hid (fun k hk => Nat.le_trans hz4 (hun k hk))
      have HFR := Lib.hid hfr
      have HU := Lib.hid hs
      have HP := Lib.hid hp5
      obtain ⟨aou, cau, rfl, _⟩ := (Rd.of_sl hs).shape
      have hr : Int.tmod (i : Int) 10 = ((i % 10 : Nat) : Int) := by rw [Int.tmod_eq_emod_of_nonneg (by omega)]; omega
      have KEEP := Lib.hid (keepNotes_any b _ F1 F2 Ls.length V C vs cs len con (.slice aou L.length cau) L w5 hp5.book hp5.cells rfl rfl hp5.out1 hp5.out2 hs (fun k hk => ⟨(hfr k hk).2.1, (hfr k hk).2.2.1, (hfr k hk).2.2.2⟩) (by have := HQ.out; omega) (by omega))
      have hi10 : i % 10 < 10 := Nat.mod_lt _ (by omega)
      have HI := Lib.hid (show i % 10 = 0 → (Ls.length + 1) * 10 ≤ i + 10 from fun h => by have := HQ.out; omega)
      clear hp4 hp5 hs hk hu hun hfr hz4 hLlen
      by_cases c0 : i % 10 = 0
      case' pos =>
        rw [c0] at hr
        go_wp2_with fail
        refine KEEP.out.mono ?_
        rintro e w6 ⟨rfl, hko⟩
        obtain ⟨G1, G2, V', C', vs', cs', len', con', hp6⟩ := HP.out.one HUN.out (fun k hk => (HFR.out k hk).1) hko
        obtain ⟨_, _, _, _, _, _, _, _, _, _, hk6, _⟩ := hko
        have RU := Lib.hid ((Rd.of_sl HU.out).kept hk6 (fun k hk hh => by
          have := HFR.out k hk
          rcases hh with e | e | e
          · exact this.2.2.2 e
          · exact this.2.1 e
          · exact this.2.2.1 e))
        have RR := Lib.hid hp6.ring
        have KK := Lib.hid hp6.kept
        have NX := Lib.hid (show ∃ Ls v F1 F2 V C vs cs len con, Play w w6 a b m (l.take (i + 1)) Ls v F1 F2 V C vs cs len con ∧ Ls.length * 10 ≤ i + 1 + 9 ∧ ∀ L ∈ Ls, L.length ≤ 50 from ⟨_, _, _, _, _, _, _, _, _, _, hp6, by rw [List.length_append]; exact HI.out c0, fun K hK => by
          rcases List.mem_append.1 hK with h | h
          · exact HLL.out K h
          · rw [List.mem_singleton.1 h]; exact hL50⟩)
        clear hp6 hk6
      case' neg =>
        have hne : ¬ ((i % 10 : Nat) : Int) = 0 := by omega
        have RU := Lib.hid (Rd.of_sl HU.out)
        have RR := Lib.hid HP.out.ring
        have KK := Lib.hid HP.out.kept
        have NX := Lib.hid (show ∃ Ls v F1 F2 V C vs cs len con, Play w w5 a b m (l.take (i + 1)) Ls v F1 F2 V C vs cs len con ∧ Ls.length * 10 ≤ i + 1 + 9 ∧ ∀ L ∈ Ls, L.length ≤ 50 from ⟨_, _, _, _, _, _, _, _, _, _, HP.out, by have := HQ.out; omega, HLL.out⟩)
      all_goals
        obtain ⟨lo, hlo⟩ : ∃ lo : Nat, lo = i + 1 - m.toNat := ⟨_, rfl⟩
        have hmx : max ((i : Int) + 1 - m) 0 = (lo : Int) := by omega
        have hlb : lo ≤ i := by omega
        have eL : L.length = i + 1 - lo := by rw [HLN.out]; omega
        have RC := Lib.hid (show Rd _ 4 L.length (.slice (some ⟨g, off + lo * 4, none⟩) (i + 1 - lo) (cap - lo)) (flat L) from by
          have h1 := HCUT.out
          have h2 := (HL.out.kept KK.out (fun _ _ h => h)).cut lo (i + 1) (cap - lo) (by omega) (by omega) (by omega)
          rw [flat_cut, show lo = i + 1 - m.toNat from hlo, ← h1, ← hlo] at h2
          rw [eL]
          exact h2)
        have SAME := Lib.hid (sameNotes_true _ _ L _ RU.out RC.out (by omega))
        have TOT := Lib.hid (fun W hr => total_has a m (l.take (i + 1)) v' ((i : Int) + 1) (by rw [HLEN.out]; omega) W hr)
        have LEN := Lib.hid (fun W hr => len_has a m (l.take (i + 1)) v' (min ((i : Int) + 1) m) (by rw [HLEN.out]; omega) W hr)
        clear hlo eL
        go_wp2_with (first
          | (go_at_call 12; refine SAME.out.mono ?_; rintro e w7 ⟨rfl, q, rfl⟩)
          | (go_at_call 13; refine (TOT.out _ (RR.out.kept ((Kept.refl (fun _ => False) _).drewN q) (fun _ _ h => h))).mono ?_; rintro e w8 ⟨rfl, rfl⟩)
          | (go_at_call 14; refine (LEN.out _ (RR.out.kept ((Kept.refl (fun _ => False) _).drewN q) (fun _ _ h => h))).mono ?_; rintro e w8 ⟨rfl, rfl⟩))
        go_roundg (gk - 1)
        case measure => omega
        case rel =>
          obtain ⟨Ls, v, F1, F2, V, C, vs, cs, len, con, hp, hq, hL⟩ := NX.out
          exact ⟨i + 1, by omega, by go_num, Ls, v, F1, F2, V, C, vs, cs, len, con, hp.keep ((Kept.refl (fun _ => False) _).drewN q), hq, hL⟩
    · have hlt2 : i ≤ 200 := by omega
      have HP := Lib.hid hp
      have HQ := Lib.hid hq
      have HLL := Lib.hid hL
      clear hp hq hL hlen
      go_wp2_with (first
        | (go_at_call 9; refine (add_nil _ _).mono ?_; rintro e w4 ⟨rfl, o, rfl⟩)
        | (go_at_call 10; refine (last_nil _).mono ?_; rintro e w5 ⟨rfl, rfl⟩)
        | (go_at_call 13; refine (total_nil _).mono ?_; rintro e w6 ⟨rfl, rfl⟩)
        | (go_at_call 14; refine (len_nil _).mono ?_; rintro e w7 ⟨rfl, rfl⟩)
        | (go_at_call 15; refine ((HP.out.keep ((Kept.refl (fun _ => False) _).alloc o)).apart HQ.out HLL.out hlt2).mono ?_; rintro e w8 ⟨rfl, hk8⟩))
      go_ret
      exact ⟨rfl, hk8⟩
end Go.Proofs.Ythchacmkeppjcaa
