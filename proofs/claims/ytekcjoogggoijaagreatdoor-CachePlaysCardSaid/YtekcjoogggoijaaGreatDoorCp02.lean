/-
  Package table in words of items: plain laws on lists of items, and what lies in memory.
-/
import Derived.Test.YtekcjoogggoijaaGreatDoorProg
import Derived.Test.YtekcjoogggoijaaGreatDoorCp01
import Derived.BigRegion
import Derived.Laws.BitsAllLaws
import Derived.Deep.LoopGhost
set_option linter.unusedVariables false
set_option linter.unusedSimpArgs false
set_option linter.unnecessarySimpa false
namespace Go.Proofs.YtekcjoogggoijaaGreatDoor
open Go.RowKit

/-- One byte more. -/
def hashStep (x : Nat) (c : UInt8) : Nat := (x ^^^ c.toNat) * 16777619 % 4294967296
/-- The hash of a text under a seed. -/
def hashN (s : ByteArray) (seed : Nat) : Nat := s.data.toList.foldl hashStep (seed ^^^ 2166136261)

theorem xor_lt32 {a b : Nat} (ha : a < 4294967296) (hb : b < 4294967296) : a ^^^ b < 4294967296 := by
  have := Nat.xor_lt_two_pow (n := 32) (x := a) (y := b) (by simpa using ha) (by simpa using hb)
  simpa using this
theorem hashStep_lt (x : Nat) (c : UInt8) : hashStep x c < 4294967296 := Nat.mod_lt _ (by decide)
theorem fold_lt : ∀ (l : List UInt8) (x : Nat), x < 4294967296 → l.foldl hashStep x < 4294967296
  | [], _, h => h
  | c :: l, _, _ => fold_lt l _ (hashStep_lt _ c)
theorem hashN_lt (s : ByteArray) (seed : Nat) (h : seed < 4294967296) : hashN s seed < 4294967296 := by
  unfold hashN
  exact fold_lt _ _ (xor_lt32 h (by omega))

theorem fold_next (s : ByteArray) (x : Nat) {i : Nat} (h : i < s.size) : (s.data.toList.take (i + 1)).foldl hashStep x = hashStep ((s.data.toList.take i).foldl hashStep x) s[i] := by
  have hl : i < s.data.toList.length := by simpa using h
  have hc : s.data.toList[i] = s[i] := by simp [ByteArray.getElem_eq_getElem_data]
  rw [List.take_succ_eq_append_getElem hl, List.foldl_append, hc, List.foldl_cons, List.foldl_nil]
theorem hash_bits {y : Nat} (c : UInt8) (hy : y < 4294967296) : bits .xor .u32 (y : Int) ((c.toNat : Int) % 4294967296) * 16777619 % 4294967296 = (hashStep y c : Nat) := by
  have hc : c.toNat < 256 := c.toNat_lt
  rw [show (c.toNat : Int) % 4294967296 = (c.toNat : Nat) by omega, u32_xor_nat y c.toNat hy (by omega)]
  unfold hashStep
  omega

set_option maxRecDepth 100000 in
set_option maxHeartbeats 800000 in
theorem hash_any (s : ByteArray) (seed : Nat) (w : World) (hs : seed < 4294967296) (hsz : s.size ≤ 1000000000) :
    Calls Tryz.prog 113 #[.string s, .int .u32 (seed : Int)] w fun e w' => e = .returned (.int .u32 (hashN s seed : Nat)) ∧ w = w' := by
  have hx : bits .xor .u32 (seed : Int) 2166136261 = ((seed ^^^ 2166136261 : Nat) : Int) := u32_xor_nat seed 2166136261 hs (by omega)
  have hx0 := Lib.hid hx
  clear hx
  go_enter Tryz.func113, Tryz.ntmps113
  go_wp2_with fail
  go_loopg [5, 11] s.size (fun g x k wr => ∃ (i y : Nat), i + g = s.size ∧ k = .int .i64 (i : Int) ∧ x = .int .u32 (y : Int) ∧ y < 4294967296 ∧ (s.data.toList.take i).foldl hashStep (seed ^^^ 2166136261) = y ∧ w = wr)
  case atStart => exact ⟨0, seed ^^^ 2166136261, by omega, rfl, congrArg _ hx0.out, xor_lt32 hs (by omega), by simp, rfl⟩
  case round =>
    obtain ⟨i, y, hi, rfl, rfl, hy, hf, rfl⟩ := hrel
    have HF := Lib.hid hf
    clear hf
    by_cases hlt : (i : Int) < s.size
    · have hl : i < s.size := by omega
      go_wp2_with fail
      go_roundg (gk - 1)
      case measure => omega
      case rel => exact ⟨i + 1, _, by omega, by go_num, congrArg _ (hash_bits s[i] hy), hashStep_lt _ _, by rw [fold_next s _ hl, HF.out], rfl⟩
    · go_wp2_with fail
      go_ret
      have : i = s.size := by omega
      subst this
      rw [List.take_of_length_le (by simp)] at HF
      unfold hashN
      rw [HF.out]
      exact ⟨rfl, rfl⟩

/-- What comes behind a text goes on from its hash. -/
theorem hashN_append (a b : ByteArray) (seed : Nat) : hashN (a ++ b) seed = hashN b (hashN a seed ^^^ 2166136261) := by
  unfold hashN
  rw [ByteArray.data_append, Array.toList_append, List.foldl_append, Nat.xor_assoc, Nat.xor_self, Nat.xor_zero]
theorem hashN_empty (seed : Nat) : hashN ByteArray.empty seed = seed ^^^ 2166136261 := rfl
end Go.Proofs.YtekcjoogggoijaaGreatDoor
namespace Go.Proofs.YtekcjoogggoijaaGreatDoor
open Go.RowKit

structure It where
  key : ByteArray
  val : ByteArray
  ver : Int
  til : Int

def It.cells (x : It) : List Value := [.string x.key, .string x.val, .int .i64 x.ver, .int .i64 x.til]
def It.v (x : It) : Value := .agg #[.string x.key, .string x.val, .int .i64 x.ver, .int .i64 x.til]
def It.none : It := ⟨ByteArray.empty, ByteArray.empty, 0, 0⟩
def flat (l : List It) : List Value := l.flatMap It.cells

theorem flat_length (l : List It) : (flat l).length = l.length * 4 := by
  induction l with
  | nil => rfl
  | cons x l ih => simp only [flat, List.flatMap_cons, List.length_append, List.length_cons] at ih ⊢; rw [ih]; simp [It.cells]; omega
theorem flat_append (l m : List It) : flat (l ++ m) = flat l ++ flat m := by simp [flat]
theorem flat_cons (x : It) (l : List It) : flat (x :: l) = x.cells ++ flat l := by simp [flat]
theorem flat_drop (l : List It) : ∀ k, (flat l).drop (k * 4) = flat (l.drop k) := by
  induction l with
  | nil => intro k; simp [flat]
  | cons x l ih =>
    intro k
    cases k with
    | zero => simp
    | succ k =>
      rw [List.drop_succ_cons, ← ih k]
      show (It.cells x ++ flat l).drop ((k + 1) * 4) = _
      rw [show (k + 1) * 4 = 4 + k * 4 by omega, ← List.drop_drop]
      rfl
theorem flat_take (l : List It) : ∀ k, (flat l).take (k * 4) = flat (l.take k) := by
  induction l with
  | nil => intro k; simp [flat]
  | cons x l ih =>
    intro k
    cases k with
    | zero => simp [flat]
    | succ k =>
      rw [List.take_succ_cons, flat_cons, flat_cons, ← ih k, show (k + 1) * 4 = 4 + k * 4 by omega, List.take_add]
      rfl
theorem flat_one (l : List It) : ∀ u ∈ flat l, u.oneCell' = true := by
  intro u hu
  simp only [flat, List.mem_flatMap, It.cells] at hu
  obtain ⟨x, _, hu⟩ := hu
  simp at hu
  rcases hu with rfl | rfl | rfl | rfl <;> rfl
theorem flat_at (l : List It) : ∀ (i : Nat) (h : i < l.length) (j : Nat), j < 4 → (flat l)[i * 4 + j]? = (l[i]).cells[j]? := by
  intro i h j hj
  have h1 := flat_drop l i
  have h2 : (flat l)[i * 4 + j]? = ((flat l).drop (i * 4))[j]? := by rw [List.getElem?_drop]
  rw [h2, h1, List.drop_eq_getElem_cons h]
  show (It.cells l[i] ++ flat (l.drop (i + 1)))[j]? = _
  rw [List.getElem?_append_left (by simp [It.cells]; omega)]
theorem flat_set (l : List It) (x : It) : ∀ (i : Nat), i < l.length → flat (l.set i x) = (flat l).take (i * 4) ++ x.cells ++ (flat l).drop (i * 4 + 4) := by
  intro i h
  rw [List.set_eq_take_append_cons_drop, if_pos h, flat_append, flat_cons, flat_take, show i * 4 + 4 = (i + 1) * 4 by omega, flat_drop, List.append_assoc]

/-- The cells of an element of a slice of items. -/
theorem rd_it {w : World} {v : Value} {l : List It} {ao : Option Addr} {m c : Nat} (h : Rd w 4 l.length v (flat l)) (hv : v = .slice ao m c) (i : Nat) (hi : i < l.length) :
    ∃ g off, ao = some ⟨g, off, none⟩ ∧ w.cell? ⟨g, off + i * 4, none⟩ = some (.string (l[i]).key) ∧ w.cell? ⟨g, off + i * 4 + 1, none⟩ = some (.string (l[i]).val) ∧ w.cell? ⟨g, off + i * 4 + 2, none⟩ = some (.int .i64 (l[i]).ver) ∧ w.cell? ⟨g, off + i * 4 + 3, none⟩ = some (.int .i64 (l[i]).til) := by
  subst hv
  obtain ⟨_, _, hc⟩ := h.at
  have f := fun j hj => flat_at l i hi j hj
  obtain ⟨g, off, rfl, h0⟩ := hc _ _ (f 0 (by omega))
  obtain ⟨g1, off1, e1, h1⟩ := hc _ _ (f 1 (by omega))
  obtain ⟨g2, off2, e2, h2⟩ := hc _ _ (f 2 (by omega))
  obtain ⟨g3, off3, e3, h3⟩ := hc _ _ (f 3 (by omega))
  injection e1 with e1; injection e1 with a1 b1; subst a1 b1
  injection e2 with e2; injection e2 with a2 b2; subst a2 b2
  injection e3 with e3; injection e3 with a3 b3; subst a3 b3
  exact ⟨g, off, rfl, by simpa using h0, by simpa [Nat.add_assoc] using h1, by simpa [Nat.add_assoc] using h2, by simpa [Nat.add_assoc] using h3⟩

/-! Lists of items, no key twice. -/
def keys (l : List It) : List ByteArray := l.map It.key
def look (l : List It) (k : ByteArray) : Option It := l.find? (fun x => decide (x.key = k))
/-- Put: in place where the key is there, else behind. -/
def hasB (l : List It) (k : ByteArray) : Bool := l.any (fun x => decide (x.key = k))
def repL (l : List It) (x : It) : List It := l.map (fun y => if y.key = x.key then x else y)
def putL (l : List It) (x : It) : List It := if hasB l x.key then repL l x else l ++ [x]
def delL (l : List It) (k : ByteArray) : List It := l.filter (fun y => decide (y.key ≠ k))
/-- What a search in a row answers. -/
def Found (key : ByteArray) (l : List It) (r : Int) : Prop :=
  (r = -1 ∧ ∀ x ∈ l, x.key ≠ key) ∨ ∃ (i : Nat) (x : It), r = i ∧ l[i]? = some x ∧ x.key = key

def slotOf (seed S : Nat) (k : ByteArray) : Nat := hashN k seed % S
def rowOf (seed S : Nat) (L : List It) (i : Nat) : List It := L.filter (fun x => slotOf seed S x.key == i)

theorem repL_keys (l : List It) (x : It) : keys (repL l x) = keys l := by
  unfold keys repL
  rw [List.map_map]
  apply List.map_congr_left
  intro y _
  simp only [Function.comp]
  split
  · rename_i h; exact h.symm
  · rfl
theorem hasB_mem {l : List It} {k : ByteArray} : hasB l k = true ↔ k ∈ keys l := by
  simp [hasB, keys]
theorem putL_nodup {l : List It} (x : It) (h : (keys l).Nodup) : (keys (putL l x)).Nodup := by
  unfold putL
  split
  · rw [repL_keys]; exact h
  · rename_i hn
    have : x.key ∉ keys l := fun hm => hn (hasB_mem.2 hm)
    unfold keys at *
    rw [List.map_append, List.nodup_append]
    refine ⟨h, by simp, ?_⟩
    intro a ha b hb
    simp at hb
    subst hb
    exact fun e => this (e ▸ ha)
theorem delL_nodup {l : List It} (k : ByteArray) (h : (keys l).Nodup) : (keys (delL l k)).Nodup := by
  unfold keys delL
  exact h.sublist (List.filter_sublist.map _)

/-- In a list without a key twice: to replace the one of a key is to set it. -/
theorem rep_set (x : It) : ∀ (l : List It) (i : Nat) (y : It), (keys l).Nodup → l[i]? = some y → y.key = x.key → repL l x = l.set i x
  | [], i, y, _, h, _ => by simp at h
  | z :: l, 0, y, hn, h, e => by
    simp at h
    subst h
    simp only [keys, List.map_cons, List.nodup_cons] at hn
    simp only [repL, List.map_cons, e, if_true, List.set_cons_zero, List.cons.injEq, true_and]
    have : ∀ a ∈ l, (if a.key = x.key then x else a) = a := by
      intro a ha
      rw [if_neg]
      intro hk
      exact hn.1 (by rw [e, ← hk]; exact List.mem_map.2 ⟨a, ha, rfl⟩)
    rw [List.map_congr_left this]
    simp
  | z :: l, i + 1, y, hn, h, e => by
    simp at h
    simp only [keys, List.map_cons, List.nodup_cons] at hn
    have hz : z.key ≠ x.key := by
      intro hk
      exact hn.1 (by rw [hk, ← e]; exact List.mem_map.2 ⟨y, List.mem_of_getElem? h, rfl⟩)
    have ih := rep_set x l i y hn.2 h e
    simp only [repL, List.map_cons, if_neg hz, List.set_cons_succ, List.cons.injEq, true_and]
    exact ih
/-- To take away the one of a key is to erase it. -/
theorem del_erase (k : ByteArray) : ∀ (l : List It) (i : Nat) (y : It), (keys l).Nodup → l[i]? = some y → y.key = k → delL l k = l.eraseIdx i
  | [], i, y, _, h, _ => by simp at h
  | z :: l, 0, y, hn, h, e => by
    simp at h
    subst h
    simp only [keys, List.map_cons, List.nodup_cons] at hn
    rw [delL, List.filter_cons, if_neg (by simp [e]), List.eraseIdx_cons_zero, List.filter_eq_self.2]
    intro a ha
    exact decide_eq_true fun hk => hn.1 (by rw [e, ← hk]; exact List.mem_map.2 ⟨a, ha, rfl⟩)
  | z :: l, i + 1, y, hn, h, e => by
    simp at h
    simp only [keys, List.map_cons, List.nodup_cons] at hn
    have hz : z.key ≠ k := by
      intro hk
      exact hn.1 (by rw [hk, ← e]; exact List.mem_map.2 ⟨y, List.mem_of_getElem? h, rfl⟩)
    have ih := del_erase k l i y hn.2 h e
    rw [delL, List.filter_cons, if_pos (by simp [hz]), List.eraseIdx_cons_succ]
    exact congrArg _ ih

theorem row_nodup {L : List It} (seed S i : Nat) (h : (keys L).Nodup) : (keys (rowOf seed S L i)).Nodup := by
  unfold keys rowOf
  exact h.sublist (List.filter_sublist.map _)
theorem mem_row {L : List It} {seed S i : Nat} {x : It} : x ∈ rowOf seed S L i ↔ x ∈ L ∧ slotOf seed S x.key = i := by simp [rowOf]
/-- What is in a key's row is all that there is of it. -/
theorem found_has {L : List It} {seed S : Nat} {k : ByteArray} {r : Int} (h : Found k (rowOf seed S L (slotOf seed S k)) r) : hasB L k = decide (0 ≤ r) := by
  rcases h with ⟨rfl, hn⟩ | ⟨i, x, rfl, hx, hk⟩
  · rw [decide_eq_false (by omega)]
    cases hh : hasB L k with
    | false => rfl
    | true =>
      obtain ⟨x, hx, hk⟩ := List.mem_map.1 (hasB_mem.1 hh)
      exact absurd hk (hn x (mem_row.2 ⟨hx, by rw [hk]⟩))
  · rw [decide_eq_true (by omega)]
    exact hasB_mem.2 (List.mem_map.2 ⟨x, (mem_row.1 (List.mem_of_getElem? hx)).1, hk⟩)

theorem row_rep (L : List It) (x : It) (seed S j : Nat) : rowOf seed S (repL L x) j = repL (rowOf seed S L j) x := by
  unfold rowOf repL
  rw [List.filter_map]
  congr 1
  apply List.filter_congr
  intro y _
  simp only [Function.comp]
  split
  · rename_i h; rw [h]
  · rfl
theorem rep_none {l : List It} {x : It} (h : ∀ y ∈ l, y.key ≠ x.key) : repL l x = l := by
  unfold repL
  have : ∀ a ∈ l, (if a.key = x.key then x else a) = a := fun a ha => if_neg (h a ha)
  rw [List.map_congr_left this]
  simp
theorem row_rep_other (L : List It) (x : It) (seed S j : Nat) (h : j ≠ slotOf seed S x.key) : rowOf seed S (repL L x) j = rowOf seed S L j := by
  rw [row_rep]
  exact rep_none fun y hy hk => h (by rw [← hk]; exact (mem_row.1 hy).2.symm)
theorem row_snoc_same (L : List It) (x : It) (seed S : Nat) : rowOf seed S (L ++ [x]) (slotOf seed S x.key) = rowOf seed S L (slotOf seed S x.key) ++ [x] := by
  unfold rowOf
  rw [List.filter_append]
  simp
theorem row_snoc_other (L : List It) (x : It) (seed S j : Nat) (h : j ≠ slotOf seed S x.key) : rowOf seed S (L ++ [x]) j = rowOf seed S L j := by
  unfold rowOf
  rw [List.filter_append]
  simp
  exact fun e => absurd e.symm h
theorem row_del (L : List It) (k : ByteArray) (seed S j : Nat) : rowOf seed S (delL L k) j = delL (rowOf seed S L j) k := by
  unfold rowOf delL
  rw [List.filter_filter, List.filter_filter]
  apply List.filter_congr
  intro y _
  exact Bool.and_comm _ _
theorem del_none {l : List It} {k : ByteArray} (h : ∀ y ∈ l, y.key ≠ k) : delL l k = l := by
  unfold delL
  exact List.filter_eq_self.2 (fun a ha => decide_eq_true (h a ha))
theorem row_del_other (L : List It) (k : ByteArray) (seed S j : Nat) (h : j ≠ slotOf seed S k) : rowOf seed S (delL L k) j = rowOf seed S L j := by
  rw [row_del]
  exact del_none fun y hy hk => h (by rw [← hk]; exact (mem_row.1 hy).2.symm)

theorem row_length_le (L : List It) (seed S j : Nat) : (rowOf seed S L j).length ≤ L.length := List.length_filter_le _ _
theorem slotOf_lt {seed S : Nat} (k : ByteArray) (h : 0 < S) : slotOf seed S k < S := Nat.mod_lt _ h
end Go.Proofs.YtekcjoogggoijaaGreatDoor
