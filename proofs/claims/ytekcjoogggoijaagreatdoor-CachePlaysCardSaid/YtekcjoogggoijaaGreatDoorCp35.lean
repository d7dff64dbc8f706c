/-
  The Book's texts: marks and copies.
-/
import Derived.Test.YtekcjoogggoijaaGreatDoorCp10
import Derived.Test.YtekcjoogggoijaaGreatDoorCp25
import Derived.BigRegion
import Derived.WalkSpells
import Derived.WalkLawsBesides
import Derived.Test.YtekcjoogggoijaaGreatDoorCp14
import Derived.Deep.LoopGhost
import Derived.Deep.RegionLaw
set_option linter.unusedVariables false
set_option linter.unusedSimpArgs false
set_option linter.unnecessarySimpa false
namespace Go.Proofs.YtekcjoogggoijaaGreatDoor
open Go.RowKit

/-- A slice that is the call's own: it holds the cells xs; nothing that was there has turned. -/
def Fresh (w w' : World) (E : TypeId) (size n : Nat) (u : Value) (xs : List Value) : Prop :=
  Sl w' E size n u xs ∧ Kept (fun _ => False) w w' ∧ ((u = .slice none 0 0 ∧ n = 0) ∨ ∃ g off cap, u = .slice (some ⟨g, off, none⟩) n cap ∧ w.heap.size ≤ g)
def FreshRet (w : World) (E : TypeId) (size n : Nat) (xs : List Value) (e : Ending) (w' : World) : Prop := ∃ u, e = .returned u ∧ Fresh w w' E size n u xs
theorem Fresh.nil {w w' : World} {E : TypeId} {size : Nat} (h : Kept (fun _ => False) w w') : Fresh w w' E size 0 (.slice none 0 0) [] := ⟨Sl.nil _ _ _, h, .inl ⟨rfl, rfl⟩⟩
theorem Fresh.push {w w1 w2 : World} {E : TypeId} {size n g off cap : Nat} {v : Value} {xs ys : List Value} (h : Fresh w w1 E size n v xs)
    (h1 : Sl w2 E size (n + 1) (.slice (some ⟨g, off, none⟩) (n + 1) cap) ys) (h2 : Kept (fun i => v.ownBlock = some i) w1 w2) (h3 : v.ownBlock = some g ∨ w1.heap.size ≤ g) :
    Fresh w w2 E size (n + 1) (.slice (some ⟨g, off, none⟩) (n + 1) cap) ys := by
  have hown : ∀ i, v.ownBlock = some i → w.heap.size ≤ i := by
    intro i hi
    rcases h.2.2 with ⟨rfl, _⟩ | ⟨g', off', cap', rfl, hg⟩
    · cases hi
    · simp [Value.ownBlock] at hi
      omega
  refine ⟨h1, h.2.1.trans h2 (fun i hi e => by have := hown i e; omega), .inr ⟨g, off, cap, rfl, ?_⟩⟩
  exact h3.elim (hown g) (fun e => Nat.le_trans h.2.1.size e)

theorem mkF_at {mk : Nat → List Value} {size : Nat} (hmk : ∀ k, (mk k).length = size) {n k j : Nat} (hk : k < n) (hj : j < size) : (mkF mk 0 n)[k * size + j]? = (mk k)[j]? := by
  obtain ⟨r, rfl⟩ : ∃ r, n = k + (1 + r) := ⟨n - k - 1, by omega⟩
  rw [mkF_add, List.getElem?_append_right (by rw [mkF_length hmk]; omega), mkF_length hmk, Nat.add_sub_cancel_left, mkF_add, List.getElem?_append_left (by rw [mkF_length hmk]; omega), mkF_succ, mkF_zero]
  simp
theorem mkF_one {mk : Nat → List Value} (h : ∀ k, ∀ u ∈ mk k, u.oneCell' = true) (fr n : Nat) : ∀ u ∈ mkF mk fr n, u.oneCell' = true := by
  intro u hu
  unfold mkF at hu
  obtain ⟨k, _, hk⟩ := List.mem_flatMap.1 hu
  exact h _ u hk

/-- Behind the keeping of one more list. -/
def KeptOne (w w' : World) (T E : TypeId) (size : Nat) (BT : TypeId) (b : Nat) (arr : Array Value) (o1 o2 : Nat) (F1 F2 : Nat → Prop) (N : Nat) (u : Value) (n : Nat) (xs : List Value) (len : Nat → Nat) (con : Nat → List Value) : Prop :=
  ∃ G1 G2 V C vs cs, Kb w' T E size G1 G2 (N + 1) V C vs cs (fun j => if j = N then n else len j) (fun j => if j = N then xs else con j) ∧ w'.heap[b]? = some (.cells ((arr.setIfInBounds o1 V).setIfInBounds o2 C) BT (0, 0)) ∧ ¬ G1 b ∧ ¬ G2 b ∧
    Kept (fun k => k = b ∨ F1 k ∨ F2 k) w w' ∧ ∀ k, G1 k ∨ G2 k → F1 k ∨ F2 k ∨ u.ownBlock = some k ∨ w.heap.size ≤ k

theorem Kb.one {w wa wb w4 wc wd : World} {T E : TypeId} {size : Nat} {F1 F2 : Nat → Prop} {N : Nat} {V C : Value} {vs cs : List Value} {len : Nat → Nat} {con : Nat → List Value} {b : Nat} {arr : Array Value} {BT : TypeId} (h : Kb w T E size F1 F2 N V C vs cs len con) (hb : w.heap[b]? = some (.cells arr BT (0, 0))) (hF1 : ¬ F1 b) (hF2 : ¬ F2 b)
    {u : Value} {n : Nat} {xs : List Value} (hu : Sl w E size n u xs) (hf : ∀ k, u.ownBlock = some k → ¬ F1 k ∧ ¬ F2 k ∧ k ≠ b) (hk : Kept (fun _ => False) w wa) {g off cap o1 o2 : Nat}
    (h1 : Sl wb T 1 (N + 1) (.slice (some ⟨g, off, none⟩) (N + 1) cap) (vs ++ [u])) (h2 : Kept (fun k => V.ownBlock = some k) wa wb) (h3 : V = .slice (some ⟨g, off, none⟩) N cap ∨ wa.heap.size ≤ g ∧ Kept (fun _ => False) wa wb)
    (hcb : Sl (wb.setCell ⟨b, o1, none⟩ (.slice (some ⟨g, off, none⟩) (N + 1) cap)) E size n u xs → True)
    {x : Value} (hx : Fresh (wb.setCell ⟨b, o1, none⟩ (.slice (some ⟨g, off, none⟩) (N + 1) cap)) w4 E size n x xs) (hk4 : Kept (fun _ => False) w4 wc) {g' off' cap' : Nat}
    (k1 : Sl wd T 1 (N + 1) (.slice (some ⟨g', off', none⟩) (N + 1) cap') (cs ++ [x])) (k2 : Kept (fun k => C.ownBlock = some k) wc wd) (k3 : C = .slice (some ⟨g', off', none⟩) N cap' ∨ wc.heap.size ≤ g' ∧ Kept (fun _ => False) wc wd) :
    KeptOne w (wd.setCell ⟨b, o2, none⟩ (.slice (some ⟨g', off', none⟩) (N + 1) cap')) T E size BT b arr o1 o2 F1 F2 N u n xs len con := by
  obtain ⟨G1, a1, a2, a3, a4, a5, a6, a7⟩ := h.v.keep hb hF1 hu (fun k hk => ⟨(hf k hk).1, (hf k hk).2.2⟩) hk h1 h2 h3 o1
  generalize wb.setCell ⟨b, o1, none⟩ (.slice (some ⟨g, off, none⟩) (N + 1) cap) = w3 at *
  have hC3 := h.c.kept a4 (fun k hk hh => by
    rcases hh with rfl | hh
    · exact hF2 hk
    · exact h.dis k hh hk)
  have hC4 := hC3.kept hx.2.1 (fun _ _ h => h)
  have hb4 : w4.heap[b]? = some (.cells (arr.setIfInBounds o1 (.slice (some ⟨g, off, none⟩) (N + 1) cap)) BT (0, 0)) := (hx.2.1.block b (lt_of_block a2) (fun e => e)).trans a2
  have hown : ∀ k, x.ownBlock = some k → w3.heap.size ≤ k := by
    intro k hk
    rcases hx.2.2 with ⟨rfl, _⟩ | ⟨g, off, cap, rfl, hg⟩
    · cases hk
    · simp [Value.ownBlock] at hk
      omega
  have hbl3 := lt_of_block a2
  obtain ⟨G2, c1, c2, c3, c4, c5, c6, c7⟩ := hC4.keep hb4 hF2 hx.1 (fun k hk => ⟨fun e => by have := hC3.lt k e; have := hown k hk; omega, fun e => by have := hown k hk; omega⟩) hk4 k1 k2 k3 o2
  have hz := a4.size
  have hz2 := hx.2.1.size
  have hd : ∀ k, G1 k → ¬ F2 k := fun k hk hh => by
    rcases a5 k hk with e | e | e
    · exact h.dis k e hh
    · exact (hf k e).2.1 hh
    · have := h.c.lt k hh; omega
  refine ⟨G1, G2, _, _, _, _, ⟨(a1.kept hx.2.1 (fun _ _ h => h)).kept c4 (fun k hk hh => ?_), c1, fun k hk hh => ?_⟩, c2, a3, c3, ?_, ?_⟩
  · rcases hh with rfl | hh
    · exact a3 hk
    · exact hd k hk hh
  · have hlt := a1.lt k hk
    rcases c5 k hh with e | e | e
    · exact hd k hk e
    · have := hown k e; omega
    · omega
  · refine ((a4.mono (fun k _ hh => hh.imp id .inl)).trans hx.2.1 (fun _ _ h => h.elim)).trans c4 (fun k _ hh => hh.imp id .inr)
  · rintro k (e | e)
    · rcases a5 k e with e | e | e
      · exact .inl e
      · exact .inr (.inr (.inl e))
      · exact .inr (.inr (.inr e))
    · rcases c5 k e with e | e | e
      · exact .inr (.inl e)
      · exact .inr (.inr (.inr (by have := hown k e; omega)))
      · exact .inr (.inr (.inr (by omega)))

end Go.Proofs.YtekcjoogggoijaaGreatDoor
namespace Go.Proofs.YtekcjoogggoijaaGreatDoor
open Go.RowKit

/-- The name of mark k of list i. -/
def bookName (i k : Nat) : ByteArray := strOfNums [109, ((65 + i % 26 : Nat) : Int), ((65 + i / 26 % 26 : Nat) : Int), ((48 + k % 10 : Nat) : Int), ((48 + k / 10 % 10 : Nat) : Int), ((48 + k / 100 % 10 : Nat) : Int)]

set_option maxRecDepth 100000 in
set_option maxHeartbeats 1600000 in
theorem bookName_any (i k : Nat) (w : World) (hi : i ≤ 1000) (hk : k ≤ 1000000) :
    Calls Tryz.prog 116 #[.int .i64 i, .int .i64 k] w fun e w' => e = .returned (.string (bookName i k)) ∧ Kept (fun _ => False) w w' := by
  have r1 : Int.tmod (i : Int) 26 = ((i % 26 : Nat) : Int) := by rw [Int.tmod_eq_emod_of_nonneg (by omega)]; omega
  have q1 : Int.tdiv (i : Int) 26 = ((i / 26 : Nat) : Int) := by rw [Int.tdiv_eq_ediv_of_nonneg (by omega)]; omega
  have r2 : Int.tmod ((i / 26 : Nat) : Int) 26 = ((i / 26 % 26 : Nat) : Int) := by rw [Int.tmod_eq_emod_of_nonneg (by omega)]; omega
  have r3 : Int.tmod (k : Int) 10 = ((k % 10 : Nat) : Int) := by rw [Int.tmod_eq_emod_of_nonneg (by omega)]; omega
  have q3 : Int.tdiv (k : Int) 10 = ((k / 10 : Nat) : Int) := by rw [Int.tdiv_eq_ediv_of_nonneg (by omega)]; omega
  have r4 : Int.tmod ((k / 10 : Nat) : Int) 10 = ((k / 10 % 10 : Nat) : Int) := by rw [Int.tmod_eq_emod_of_nonneg (by omega)]; omega
  have q5 : Int.tdiv (k : Int) 100 = ((k / 100 : Nat) : Int) := by rw [Int.tdiv_eq_ediv_of_nonneg (by omega)]; omega
  have r5 : Int.tmod ((k / 100 : Nat) : Int) 10 = ((k / 100 % 10 : Nat) : Int) := by rw [Int.tmod_eq_emod_of_nonneg (by omega)]; omega
  have hn := Lib.hid (show bookName i k = strOfNums [109, ((65 + i % 26 : Nat) : Int), ((65 + i / 26 % 26 : Nat) : Int), ((48 + k % 10 : Nat) : Int), ((48 + k / 10 % 10 : Nat) : Int), ((48 + k / 100 % 10 : Nat) : Int)] from rfl)
  have b1 : i % 26 < 26 := Nat.mod_lt _ (by decide)
  have b2 : i / 26 % 26 < 26 := Nat.mod_lt _ (by decide)
  have b3 : k % 10 < 10 := Nat.mod_lt _ (by decide)
  have b4 : k / 10 % 10 < 10 := Nat.mod_lt _ (by decide)
  have b5 : k / 100 % 10 < 10 := Nat.mod_lt _ (by decide)
  generalize bookName i k = out at *
  generalize hA : i % 26 = A at *
  generalize hB : i / 26 % 26 = B at *
  generalize hC : k % 10 = C at *
  generalize hD : k / 10 % 10 = D at *
  generalize hE : k / 100 % 10 = E at *
  have c1 : i / 26 ≤ 1000 := by omega
  have c2 : k / 10 ≤ 1000000 := by omega
  have c3 : k / 100 ≤ 1000000 := by omega
  clear hA hB hC hD hE
  generalize i / 26 = i2 at *
  generalize k / 10 = k2 at *
  generalize k / 100 = k3 at *
  have hcv : (convert 123 9 (.slice (some ⟨w.heap.size, 0, none⟩) 6 6)).run Tryz.prog (w.alloc (.cells #[.int .u8 109, .int .u8 (65 + (A : Int)), .int .u8 (65 + (B : Int)), .int .u8 (48 + (C : Int)), .int .u8 (48 + (D : Int)), .int .u8 (48 + (E : Int))] 5)) = .ok (.string out) (w.alloc (.cells #[.int .u8 109, .int .u8 (65 + (A : Int)), .int .u8 (65 + (B : Int)), .int .u8 (48 + (C : Int)), .int .u8 (48 + (D : Int)), .int .u8 (48 + (E : Int))] 5)) := by
    rw [hn.out]
    exact conv_new w [109, ((65 + A : Nat) : Int), ((65 + B : Nat) : Int), ((48 + C : Nat) : Int), ((48 + D : Nat) : Int), ((48 + E : Nat) : Int)]
  clear hn
  have u1 : IntKind.u8.wrap (65 + (A : Int)) = 65 + (A : Int) := IntWalk.u8_in _ (by omega)
  have u2 : IntKind.u8.wrap (65 + (B : Int)) = 65 + (B : Int) := IntWalk.u8_in _ (by omega)
  have u3 : IntKind.u8.wrap (48 + (C : Int)) = 48 + (C : Int) := IntWalk.u8_in _ (by omega)
  have u4 : IntKind.u8.wrap (48 + (D : Int)) = 48 + (D : Int) := IntWalk.u8_in _ (by omega)
  have u5 : IntKind.u8.wrap (48 + (E : Int)) = 48 + (E : Int) := IntWalk.u8_in _ (by omega)
  have v1 : IntKind.i64.wrap (65 + (A : Int)) = 65 + (A : Int) := IntWalk.i64_in _ (by omega)
  have v2 : IntKind.i64.wrap (65 + (B : Int)) = 65 + (B : Int) := IntWalk.i64_in _ (by omega)
  have v3 : IntKind.i64.wrap (48 + (C : Int)) = 48 + (C : Int) := IntWalk.i64_in _ (by omega)
  have v4 : IntKind.i64.wrap (48 + (D : Int)) = 48 + (D : Int) := IntWalk.i64_in _ (by omega)
  have v5 : IntKind.i64.wrap (48 + (E : Int)) = 48 + (E : Int) := IntWalk.i64_in _ (by omega)
  have v6 : IntKind.i64.wrap (i2 : Int) = (i2 : Int) := IntWalk.i64_in _ (by omega)
  have v7 : IntKind.i64.wrap (k2 : Int) = (k2 : Int) := IntWalk.i64_in _ (by omega)
  have v8 : IntKind.i64.wrap (k3 : Int) = (k3 : Int) := IntWalk.i64_in _ (by omega)
  go_enter Tryz.func116, Tryz.ntmps116
  go_wp2_with fail
  go_ret
  exact ⟨rfl, (Kept.refl _ _).alloc _⟩
end Go.Proofs.YtekcjoogggoijaaGreatDoor
namespace Go.Proofs.YtekcjoogggoijaaGreatDoor
open Go.RowKit

theorem strB_info : (Tryz.prog.info? 9).map (fun i => (i.zero, i.size, i.bytes)) = some (some (.string ByteArray.empty), 1, 16) := by kernel_rfl
def markTextsE (i k : Nat) : ByteArray := (bookName i k)
def markTextsL (i n : Nat) : List ByteArray := (List.range n).map fun j => markTextsE i j
theorem markTextsL_length (i n : Nat) : (markTextsL i n).length = n := by simp [markTextsL]
def mkTexts (i k : Nat) : List Value := [Value.string (markTextsE i k)]
theorem mkTexts_length (i : Nat) : ∀ k, (mkTexts i k).length = 1 := fun _ => rfl
theorem mkTexts_one (i fr n : Nat) : ∀ u ∈ mkF (mkTexts i) fr n, u.oneCell' = true := mkF_one (fun _ => by simp [mkTexts, Value.oneCell']) fr n
theorem flat_markTexts (i n : Nat) : ((markTextsL i n).map Value.string) = mkF (mkTexts i) 0 n := by
  induction n with | zero => rfl | succ n ih => rw [mkF_succ, ← ih]; simp [markTextsL, List.range_succ, mkTexts]

set_option maxRecDepth 100000 in
set_option maxHeartbeats 1600000 in
theorem markTexts_any (i fr n : Nat) (w : World) (hi : i ≤ 1000) (hf : fr ≤ 100000) (hn : n ≤ 100000) :
    Calls Tryz.prog 95 #[.int .i64 i, .int .i64 fr, .int .i64 n] w (FreshRet w 9 1 n (mkF (mkTexts i) fr n)) := by
  obtain ⟨i0, hi0, hz0, hz1, hz2⟩ := info_parts strB_info
  go_enter Tryz.func95, Tryz.ntmps95
  go_wp2_with fail
  go_loopg [7, 8] n (fun gk v k wr => ∃ j : Nat, j + gk = n ∧ k = .int .i64 ((fr + j : Nat) : Int) ∧ Fresh w wr 9 1 j v (mkF (mkTexts i) fr j))
  case atStart => exact ⟨0, by omega, rfl, Fresh.nil (Kept.refl _ _)⟩
  case round =>
    obtain ⟨j, hj, rfl, hfr⟩ := hrel
    by_cases hlt : j < n
    · have NX := Lib.hid (mkF_succ (mkTexts i) fr j)
      have HFR := Lib.hid hfr
      obtain ⟨aov, cav, rfl, _⟩ := (Rd.of_sl hfr.1).shape
      obtain ⟨y, hy⟩ : ∃ y, y = fr + j := ⟨_, rfl⟩
      have NAME := Lib.hid (fun (W : World) => bookName_any i (fr + j) W hi (by omega))
      obtain ⟨s, hs⟩ : ∃ s, s = bookName i (fr + j) := ⟨_, rfl⟩
      rw [← hs] at NAME
      have HS := Lib.hid hs
      have hone : ∀ u ∈ ([.string s] : List Value), u.oneCell' = true := by simp [Value.oneCell']
      have b1 : j + 1 ≤ maxLen := by unfold maxLen; omega
      have b2 : (j + 1) * 16 ≤ 140737488355328 := by omega
      clear hfr hs hy
      go_wp2_with fail
      go_at_call 116
      refine (NAME.out _).mono ?_
      rintro e w2 ⟨rfl, hk2⟩
      have HSL := Lib.hid (HFR.out.1.kept hk2 (fun _ _ h => h))
      have APP := Lib.hid (fun (W w5 : World) (g off cap : Nat) (hk : Kept (fun _ => False) w2 W) h1 h2 h3 => Fresh.push (g := g) (off := off) (cap := cap) (w2 := w5) (ys := mkF (mkTexts i) fr j ++ [.string s]) (⟨(HSL.out).kept hk (fun _ _ h => h), (HFR.out.2.1.trans hk2 (fun _ _ h => h)).trans hk (fun _ _ h => h), HFR.out.2.2⟩ : Fresh w W 9 1 j (.slice aov j cav) (mkF (mkTexts i) fr j)) h1 h2 h3)
      clear hk2
      go_wp2_with (at_builtin; refine wpList_append_sl _ rfl (.tmp 17) (.tmp 21) 49 rfl 9 i0 _ 1 16 Tryz.underlying49 hi0 hz0 hz1 hz2 rfl (by decide) _ j (mkF (mkTexts i) fr j) rfl (HSL.out.alloc _) ⟨w2.heap.size, 0, none⟩ 1 1 [.string s] rfl rfl (cells_new _ _ _ _) hone (by omega) b1 b2 ?_; intro g4 off4 cap w5 h1 h2 h3; have FIN := Lib.hid (APP.out _ w5 g4 off4 cap ((Kept.refl (fun _ => False) w2).alloc _) h1 h2 h3); clear h1 h2 h3)
      go_roundg (gk - 1)
      case measure => omega
      case rel => exact ⟨j + 1, by omega, by go_num, by rw [NX.out]; have := FIN.out; rw [HS.out] at this; exact this⟩
    · obtain rfl : n = j := by omega
      go_wp2_with fail
      go_ret
      exact ⟨_, rfl, hfr⟩

set_option maxRecDepth 100000 in
set_option maxHeartbeats 1600000 in
theorem copyTexts_any (v : Value) (l : List ByteArray) (w : World) (h : Rd w 1 l.length v ((l).map Value.string)) (hn : l.length ≤ 100000) :
    Calls Tryz.prog 39 #[v] w (FreshRet w 9 1 l.length ((l).map Value.string)) := by
  obtain ⟨i0, hi0, hz0, hz1, hz2⟩ := info_parts strB_info
  obtain ⟨ao, ca, rfl, hca⟩ := h.shape
  by_cases h0 : l.length = 0
  · obtain rfl : l = [] := List.eq_nil_of_length_eq_zero h0
    simp only [List.length_nil] at hca ⊢
    clear h hn h0
    rcases ao with _ | a
    all_goals
      go_enter Tryz.func39, Tryz.ntmps39
      go_wp2_with fail
      go_ret
      exact ⟨_, rfl, Fresh.nil (Kept.refl _ _)⟩
  · obtain ⟨_, _, hc⟩ := h.at
    have hfl : ((l).map Value.string).length = l.length * 1 := (by simp)
    obtain ⟨g, off, rfl⟩ : ∃ g off, ao = some ⟨g, off, none⟩ := by
      have hl : 0 < ((l).map Value.string).length := by rw [hfl]; omega
      obtain ⟨g, off, e, _⟩ := hc 0 _ (List.getElem?_eq_getElem hl)
      exact ⟨g, off, e⟩
    have hcell : ∀ (j : Nat) (u : Value), ((l).map Value.string)[j]? = some u → w.cell? ((⟨g, off, none⟩ : Addr).add j) = some u := fun j u hu => by
      obtain ⟨g', off', e, h1⟩ := hc j u hu
      injection e with e
      injection e with e1 e2
      subst e1 e2
      rw [Addr.add_lit]
      exact h1
    have HC := Lib.hid hcell
    have H1 := Lib.hid (show ∀ u ∈ ((l).map Value.string), u.oneCell' = true from fun u hu => by obtain ⟨x, _, rfl⟩ := List.mem_map.1 hu; rfl)
    have b1 : 0 + l.length ≤ maxLen := by unfold maxLen; omega
    have b2 : (0 + l.length) * 16 ≤ 140737488355328 := by omega
    have FR := Lib.hid (Fresh.nil (E := 9) (size := 1) (Kept.refl (fun _ => False) w))
    generalize ((l).map Value.string) = xs at *
    generalize l.length = n at *
    clear h hc hcell
    go_enter Tryz.func39, Tryz.ntmps39
    go_wp2_with (at_builtin; refine wpList_append_sl _ rfl (.const (.slice none 0 0)) (.tmp 3) 49 rfl 9 i0 _ 1 16 Tryz.underlying49 hi0 hz0 hz1 hz2 rfl (by decide) (.slice none 0 0) 0 [] rfl (Sl.nil _ _ _) ⟨g, off, none⟩ n ca xs rfl hfl HC.out H1.out (by omega) b1 b2 ?_; intro g4 off4 cap w5 h1 h2 h3; have F1 := Lib.hid h1; have F2 := Lib.hid h2; have F3 := Lib.hid h3; clear h1 h2 h3)
    go_ret
    refine ⟨_, rfl, ?_, F2.out.mono (fun i _ e => by cases e), .inr ⟨g4, off4, cap, ?_, ?_⟩⟩
    · have := F1.out
      simpa using this
    · simp
    · exact F3.out.elim (fun e => by cases e) (fun e => e)
end Go.Proofs.YtekcjoogggoijaaGreatDoor
