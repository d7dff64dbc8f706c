/-
  Package ring in words of the notes: 'RingHas w b most hist v': the ring at block b was told the notes of hist, in that order, and keeps the last of them; alive answers true.
-/
import Derived.Test.YthchacmkeppjcaaRingA
namespace Go.Proofs.Ythchacmkeppjcaa
set_option linter.unusedVariables false
set_option linter.unusedSimpArgs false
set_option linter.unnecessarySimpa false
open Go.RowKit

structure Note where
  user : ByteArray
  op : Int
  key : ByteArray
  allow : Bool

def Note.cells (x : Note) : List Value := [.string x.user, .int .i64 x.op, .string x.key, .bool x.allow]
def Note.val (x : Note) : Value := .agg #[.string x.user, .int .i64 x.op, .string x.key, .bool x.allow]
def flat (l : List Note) : List Value := l.flatMap Note.cells
def lastn {α : Type} (m : Nat) (l : List α) : List α := l.drop (l.length - m)

theorem flat_length (l : List Note) : (flat l).length = l.length * 4 := by
  induction l with
  | nil => rfl
  | cons x l ih => simp only [flat, List.flatMap_cons, List.length_append, List.length_cons] at ih ⊢; rw [ih]; simp [Note.cells]; omega
theorem flat_append (l m : List Note) : flat (l ++ m) = flat l ++ flat m := by simp [flat]
theorem flat_drop (l : List Note) : ∀ k, (flat l).drop (k * 4) = flat (l.drop k) := by
  induction l with
  | nil => intro k; simp [flat]
  | cons x l ih =>
    intro k
    cases k with
    | zero => simp
    | succ k =>
      rw [List.drop_succ_cons, ← ih k]
      show (Note.cells x ++ flat l).drop ((k + 1) * 4) = _
      rw [show (k + 1) * 4 = 4 + k * 4 by omega, ← List.drop_drop]
      rfl
theorem flat_one (l : List Note) : ∀ u ∈ flat l, u.oneCell' = true := by
  intro u hu
  simp only [flat, List.mem_flatMap, Note.cells] at hu
  obtain ⟨x, _, hu⟩ := hu
  simp at hu
  rcases hu with rfl | rfl | rfl | rfl <;> rfl
theorem flat_at (l : List Note) : ∀ (i : Nat) (h : i < l.length) (j : Nat), j < 4 → (flat l)[i * 4 + j]? = (l[i]).cells[j]? := by
  intro i h j hj
  have h1 := flat_drop l i
  have h2 : (flat l)[i * 4 + j]? = ((flat l).drop (i * 4))[j]? := by rw [List.getElem?_drop]
  rw [h2, h1, List.drop_eq_getElem_cons h]
  show (Note.cells l[i] ++ flat (l.drop (i + 1)))[j]? = _
  rw [List.getElem?_append_left (by simp [Note.cells]; omega)]

theorem lastn_length {α : Type} (m : Nat) (l : List α) : (lastn m l).length = min l.length m := by simp [lastn]; omega
theorem lastn_snoc {α : Type} (m : Nat) (l : List α) (x : α) : (lastn m l ++ [x]).drop ((lastn m l).length + 1 - m) = lastn m (l ++ [x]) := by
  rw [lastn_length]
  unfold lastn
  rcases Nat.lt_or_ge l.length m with h | h
  · rw [show l.length - m = 0 by omega, List.length_append, List.length_singleton, show l.length + 1 - m = 0 by omega, show min l.length m + 1 - m = 0 by omega]
    simp
  · rw [show min l.length m + 1 - m = 1 by omega, List.length_append, List.length_singleton, show l.length + 1 - m = (l.length - m) + 1 by omega]
    have h1 : (l ++ [x]).drop (l.length - m) = l.drop (l.length - m) ++ [x] := by rw [List.drop_append_of_le_length (by omega)]
    rw [← h1, List.drop_drop]

/-- The ring at block b was told 'hist'; it keeps the last 'most' of them; v is the slice in its field. -/
def RingHas (w : World) (b : Nat) (most : Int) (hist : List Note) (v : Value) : Prop :=
  RingAt w b most hist.length v (lastn most.toNat hist).length (flat (lastn most.toNat hist))

/-- The blocks of a ring. -/
def ringF (b : Nat) (v : Value) (k : Nat) : Prop := k = b ∨ v.ownBlock = some k

theorem RingHas.kept {w w' : World} {b : Nat} {most : Int} {hist : List Note} {v : Value} {S : Nat → Prop} (h : RingHas w b most hist v) (hk : Kept S w w') (hS : ∀ k, ringF b v k → ¬ S k) : RingHas w' b most hist v := by
  obtain ⟨h1, h2, h3, h4⟩ := h
  exact ⟨(hk.block b (lt_of_block h1) (hS b (.inl rfl))).trans h1, h2.kept hk (fun k hv => hS k (.inr hv)), h3, h4⟩
theorem RingHas.lt {w : World} {b : Nat} {most : Int} {hist : List Note} {v : Value} (h : RingHas w b most hist v) {k : Nat} (hk : ringF b v k) : k < w.heap.size := by
  rcases hk with rfl | hk
  · exact lt_of_block h.1
  · exact h.2.1.lt hk

/-- Behind an Add. -/
def AddedHas (w w' : World) (b : Nat) (most : Int) (hist : List Note) (v : Value) (x : Note) : Prop :=
  ∃ v', RingHas w' b most (hist ++ [x]) v' ∧ Kept (ringF b v) w w' ∧ ∀ k, ringF b v' k → ringF b v k ∨ w.heap.size ≤ k

theorem add_has (b : Nat) (most : Int) (hist : List Note) (v : Value) (x : Note) (a : Array Value) (ha : a = #[.string x.user, .int .i64 x.op, .string x.key, .bool x.allow]) (w : World) (hr : RingHas w b most hist v) (hn : hist.length < 1000000) :
    Calls Try.prog 9 #[.pointer (some ⟨b, 0, none⟩), .agg a] w fun e w' => e = .returned (.tuple #[]) ∧ AddedHas w w' b most hist v x := by
  subst ha
  have hl := lastn_length most.toNat hist
  refine (add_any b most hist.length v _ _ x.user x.op x.key x.allow w hr (by omega) (by omega)).mono ?_
  rintro e w' ⟨rfl, v', h1, h2, h3⟩
  have e1 : flat (lastn most.toNat hist) ++ [.string x.user, .int .i64 x.op, .string x.key, .bool x.allow] = flat (lastn most.toNat hist ++ [x]) := by rw [flat_append]; rfl
  rw [e1, flat_drop, lastn_snoc] at h1
  have e2 : (lastn most.toNat hist).length + 1 - ((lastn most.toNat hist).length + 1 - most.toNat) = (lastn most.toNat (hist ++ [x])).length := by
    rw [lastn_length, lastn_length]; simp; omega
  rw [e2] at h1
  have e3 : ((hist.length : Nat) : Int) + 1 = ((hist ++ [x]).length : Nat) := by simp
  rw [e3] at h1
  refine ⟨rfl, v', h1, h2, ?_⟩
  intro k hk
  rcases hk with rfl | hk
  · exact .inl (.inl rfl)
  · rcases h3 with h3 | ⟨g, hg, hge⟩
    · exact .inl (.inr (h3 ▸ hk))
    · rw [hg] at hk
      injection hk with hk
      exact .inr (by omega)

theorem last_has (b : Nat) (most : Int) (hist : List Note) (v : Value) (w : World) (hr : RingHas w b most hist v) (hn : hist.length < 1000000) :
    Calls Try.prog 10 #[.pointer (some ⟨b, 0, none⟩)] w (FreshRet w 38 4 (lastn most.toNat hist).length (flat (lastn most.toNat hist))) :=
  last_any b most _ v _ _ w hr (flat_one _) (by have := lastn_length most.toNat hist; omega)
theorem total_has (b : Nat) (most : Int) (hist : List Note) (v : Value) (T : Int) (hT : (hist.length : Int) = T) (w : World) (hr : RingHas w b most hist v) :
    Calls Try.prog 13 #[.pointer (some ⟨b, 0, none⟩)] w fun e w' => e = .returned (.int .i64 T) ∧ w = w' := hT ▸ total_any b most _ v _ _ w hr
theorem len_has (b : Nat) (most : Int) (hist : List Note) (v : Value) (L : Int) (hL : ((min hist.length most.toNat : Nat) : Int) = L) (w : World) (hr : RingHas w b most hist v) :
    Calls Try.prog 14 #[.pointer (some ⟨b, 0, none⟩)] w fun e w' => e = .returned (.int .i64 L) ∧ w = w' := by
  have h := len_any b most _ v _ _ w hr
  rw [lastn_length, hL] at h
  exact h

/-- New, in these words. -/
theorem new_has (n : Int) (w : World) (h0 : -9223372036854775808 ≤ n) (h1 : n ≤ 9223372036854775807) :
    Calls Try.prog 8 #[.int .i64 n] w fun e w' => e = .returned (.pointer (some ⟨w.heap.size, 0, none⟩)) ∧
      RingHas w' w.heap.size (min (max n 1) 50) [] (.slice none 0 0) ∧ Kept (fun _ => False) w w' ∧ w.heap.size < w'.heap.size := by
  refine (new_any n w h0 h1).mono ?_
  rintro e w' ⟨he, h2, h3⟩
  exact ⟨he, by simpa [RingHas, lastn, flat] using h2, h3, lt_of_block h2.1⟩

/-- The notes 0 .. k-1 with just an Op. -/
def opNote (i : Int) : Note := ⟨ByteArray.empty, i, ByteArray.empty, false⟩

def opNotes (f : Nat → Note) (i : Nat) : List Note := (List.range i).map f
theorem opNotes_succ (f : Nat → Note) (i : Nat) : opNotes f (i + 1) = opNotes f i ++ [f i] := by simp [opNotes, List.range_succ]
theorem opNotes_length (f : Nat → Note) (i : Nat) : (opNotes f i).length = i := by simp [opNotes]

/-- A ring of the call's own: all its blocks are new. -/
def Own (w w' : World) (b : Nat) (most : Int) (hist : List Note) : Prop := ∃ v, RingHas w' b most hist v ∧ Kept (fun _ => False) w w' ∧ ∀ k, ringF b v k → w.heap.size ≤ k

theorem Own.added {w w1 w2 : World} {b : Nat} {most : Int} {hist : List Note} {x : Note} {v : Value} (hk : Kept (fun _ => False) w w1) (hF : ∀ k, ringF b v k → w.heap.size ≤ k) (h : AddedHas w1 w2 b most hist v x) : Own w w2 b most (hist ++ [x]) := by
  obtain ⟨v', h1, h2, h3⟩ := h
  refine ⟨v', h1, hk.trans h2 (fun i hi hs => by have := hF i hs; omega), fun k hk' => ?_⟩
  rcases h3 k hk' with h | h
  · exact hF k h
  · have := hk.size; omega

set_option maxHeartbeats 800000 in
theorem alive_any (w : World) : Calls Try.prog 7 #[] w fun e w' => e = .returned (.bool true) ∧ Kept (fun _ => False) w w' := by
  go_enter Try.func7, Try.ntmps7
  go_wp2_with fail
  refine (new_has 2 _ (by omega) (by omega)).mono ?_
  rintro e w1 ⟨rfl, hr, hk, hz⟩
  have hown : Own w w1 w.heap.size 2 (opNotes (fun j => opNote (j + 1)) 0) := ⟨_, hr, hk, fun k h => by
    rcases h with rfl | h
    · exact Nat.le_refl _
    · simp [Value.ownBlock] at h⟩
  clear hr hk hz
  go_wp2_with fail
  obtain ⟨b, hb⟩ : ∃ b, b = w.heap.size := ⟨_, rfl⟩
  rw [← hb] at hown ⊢
  have HB := Lib.hid hb
  clear hb
  go_loopw [2] (fun k wr => ∃ i : Nat, i ≤ 3 ∧ k = .int .i64 ((i : Int) + 1) ∧ Own w wr b 2 (opNotes (fun j => opNote (j + 1)) i)) (fun k _ => 4 - (intOf k).toNat)
  case atStart => exact ⟨0, by omega, rfl, hown⟩
  case round =>
    obtain ⟨i, hi, rfl, v, hr, hk, hF⟩ := hrel
    by_cases hlt : i < 3
    · have hl := opNotes_length (fun j => opNote (j + 1)) i
      go_wp2_with fail
      refine (add_has b 2 _ v (opNote (i + 1)) _ rfl _ hr (by omega)).mono ?_
      rintro e w2 ⟨rfl, ha⟩
      have hown := Own.added hk hF ha
      rw [← opNotes_succ (fun j => opNote (j + 1)) i] at hown
      clear ha hr hk hF hl
      go_wp2_with fail
      go_roundw
      case rel => exact ⟨i + 1, by omega, by go_num, hown⟩
      case measure => simp [intOf]; omega
    · obtain rfl : i = 3 := by omega
      have hl : (opNotes (fun j => opNote (j + 1)) 3).length < 1000000 := by decide
      go_wp2_with fail
      refine (last_has b 2 _ v _ hr hl).mono ?_
      rintro e w2 ⟨u, rfl, hs, hk2, hu⟩
      have hl2 : (lastn (2 : Int).toNat (opNotes (fun j => opNote (j + 1)) 3)).length = 2 := by decide
      rw [hl2] at hs hu
      obtain ⟨g, off, cap, rfl, hg⟩ : ∃ g off cap, u = .slice (some ⟨g, off, none⟩) 2 cap ∧ wr.heap.size ≤ g := by
        rcases hu with ⟨_, h⟩ | h
        · omega
        · exact h
      have c1 := hs.cell rfl 1 (.int .i64 2) rfl
      have c5 := hs.cell rfl 5 (.int .i64 3) rfl
      have hr2 := hr.kept hk2 (fun _ _ h => h)
      have hkk : Kept (fun _ => False) w w2 := hk.trans hk2 (fun _ _ h => h)
      have hT : ((opNotes (fun j => opNote (j + 1)) 3).length : Int) = 3 := by decide
      have hL : ((min (opNotes (fun j => opNote (j + 1)) 3).length (2 : Int).toNat : Nat) : Int) = 2 := by decide
      have HL := Lib.hid hL
      have HT := Lib.hid hT
      clear hl2 hr hs hu hk hk2 hT hL
      simp [Addr.add] at c1 c5
      go_wp2_with (first | (go_at_call 13; refine (total_has b 2 _ v 3 HT.out _ hr2).mono ?_; rintro e w3 ⟨rfl, rfl⟩) | (go_at_call 14; refine (len_has b 2 _ v 2 HL.out _ hr2).mono ?_; rintro e w3 ⟨rfl, rfl⟩))
      go_ret
      exact ⟨rfl, hkk⟩
end Go.Proofs.Ythchacmkeppjcaa
