/-
  A table of one's own: what its methods do, in words of the items alone; alive answers true.
-/
import Derived.Test.YthdondhpgmjmpaaGreatTabE
namespace Go.Proofs.YthdondhpgmjmpaaGreat
set_option linter.unusedVariables false
set_option linter.unusedSimpArgs false
set_option linter.unnecessarySimpa false
open Go.RowKit
set_option maxRecDepth 100000

theorem hasB_perm {L L' : List It} (h : L'.Perm L) (k : ByteArray) : hasB L' k = hasB L k := by
  rw [Bool.eq_iff_iff, hasB_mem, hasB_mem]
  exact (h.map It.key).mem_iff
theorem putL_perm {L L' : List It} (h : L'.Perm L) (x : It) : (putL L' x).Perm (putL L x) := by
  unfold putL
  rw [hasB_perm h]
  split
  · exact h.map _
  · exact h.append_right _
theorem delL_perm {L L' : List It} (h : L'.Perm L) (k : ByteArray) : (delL L' k).Perm (delL L k) := h.filter _
theorem look_mem {L : List It} (hn : (keys L).Nodup) {k : ByteArray} {x : It} : look L k = some x ↔ x ∈ L ∧ x.key = k := by
  constructor
  · intro h
    have h1 := List.find?_some h
    exact ⟨List.mem_of_find?_eq_some h, by simpa using h1⟩
  · rintro ⟨hm, hk⟩
    induction L with
    | nil => cases hm
    | cons y M ih =>
      simp only [keys, List.map_cons, List.nodup_cons] at hn
      unfold look
      rcases List.mem_cons.1 hm with rfl | h
      · rw [List.find?_cons_of_pos (by simpa using hk)]
      · rw [List.find?_cons_of_neg]
        · exact ih hn.2 h
        · simp only [decide_eq_true_eq]
          exact fun e => hn.1 (by rw [e, ← hk]; exact List.mem_map.2 ⟨x, h, rfl⟩)
theorem look_perm {L L' : List It} (h : L'.Perm L) (hn : (keys L).Nodup) (k : ByteArray) : look L' k = look L k := by
  have hn' : (keys L').Nodup := (h.map It.key).nodup_iff.2 hn
  apply Option.ext
  intro x
  rw [look_mem hn', look_mem hn, h.mem_iff]
theorem look_has (L : List It) (k : ByteArray) : (look L k).isSome = hasB L k := by
  unfold look hasB
  rw [Bool.eq_iff_iff, List.find?_isSome, List.any_eq_true]
theorem putL_sizes {L : List It} {x : It} {N : Nat} (h : ∀ y ∈ L, y.key.size ≤ N) (hx : x.key.size ≤ N) : ∀ y ∈ putL L x, y.key.size ≤ N := by
  intro y hy
  unfold putL at hy
  split at hy
  · obtain ⟨z, hz, rfl⟩ := List.mem_map.1 hy
    split
    · exact hx
    · exact h z hz
  · rcases List.mem_append.1 hy with hy | hy
    · exact h y hy
    · simp at hy
      rw [hy]
      exact hx
theorem putL_length_le (L : List It) (x : It) : (putL L x).length ≤ L.length + 1 := by
  unfold putL
  split
  · rw [repL_length]; omega
  · simp
theorem growS_ge {S m : Nat} (h : m ≤ S + 1) (hS : 0 < S) : m ≤ growS S m := by
  unfold growS
  split <;> omega
theorem growS_pos {S m : Nat} (h : 0 < S) : 0 < growS S m := by
  unfold growS
  split <;> omega

/-- A list of items as a table may hold it. -/
structure Fit (S : Nat) (L : List It) : Prop where
  nodup : (keys L).Nodup
  sizes : ∀ y ∈ L, y.key.size ≤ 1000000000
  le : L.length ≤ S
  pos : 0 < S
theorem Fit.nil : Fit 8 [] := ⟨by simp [keys], by simp, by simp, by omega⟩
theorem Fit.put {S : Nat} {L : List It} (h : Fit S L) {x : It} (hx : x.key.size ≤ 1000000000) : Fit (growS S (putL L x).length) (putL L x) :=
  ⟨putL_nodup x h.nodup, putL_sizes h.sizes hx, growS_ge (by have := putL_length_le L x; have := h.le; omega) h.pos, growS_pos h.pos⟩
theorem Fit.del {S : Nat} {L : List It} (h : Fit S L) (k : ByteArray) : Fit S (delL L k) :=
  ⟨delL_nodup k h.nodup, fun y hy => h.sizes y ((List.mem_filter.1 hy).1), Nat.le_trans (List.length_filter_le _ _) h.le, h.pos⟩

/-- The table at b is all its own: it holds the items of L in whatever order. -/
def Tb (w : World) (b : Nat) (O : Nat → Prop) (seed S : Nat) (L : List It) : Prop := Fit S L ∧ ∃ L', L'.Perm L ∧ Tab0 w b O seed (L.length : Nat) S L'
theorem Tb.kept {w w' : World} {b : Nat} {O T : Nat → Prop} {seed S : Nat} {L : List It} (h : Tb w b O seed S L) (hk : Kept T w w') (hd : ∀ k, O k → ¬ T k) : Tb w' b O seed S L := by
  obtain ⟨hf, L', hp, ht⟩ := h
  exact ⟨hf, L', hp, ht.kept hk hd⟩
theorem Tb.lt {w : World} {b : Nat} {O : Nat → Prop} {seed S : Nat} {L : List It} (h : Tb w b O seed S L) : ∀ k, O k → k < w.heap.size := by
  obtain ⟨hf, L', hp, ht⟩ := h
  exact ht.lt

theorem tb_new (seed : Nat) (w : World) (hs : seed < 4294967296) :
    Calls Tryz.prog 5 #[.int .u32 (seed : Int)] w fun e w' => e = .returned (.pointer (some ⟨w.heap.size, 0, none⟩)) ∧ Tb w' w.heap.size (fun k => k = w.heap.size) seed 8 [] ∧ Kept (fun _ => False) w w' := by
  refine (new_table seed w hs).mono ?_
  rintro e w' ⟨h1, h2, h3⟩
  exact ⟨h1, ⟨Fit.nil, [], List.Perm.refl _, h2⟩, h3⟩

theorem Fit.perm {S : Nat} {L L' : List It} (h : Fit S L) (hp : L'.Perm L) : Fit S L' :=
  ⟨(hp.map It.key).nodup_iff.2 h.nodup, fun y hy => h.sizes y (hp.mem_iff.1 hy), by rw [hp.length_eq]; exact h.le, h.pos⟩

theorem tb_put {b : Nat} {O : Nat → Prop} {seed S : Nat} {L : List It} (x : It) {w : World} (h : Tb w b O seed S L) (hS : S ≤ 300000) (hx : x.key.size ≤ 1000000000) :
    Calls Tryz.prog 6 #[.pointer (some ⟨b, 0, none⟩), .agg #[.string x.key, .string x.val, .int .i64 x.ver, .int .i64 x.til]] w fun e w' =>
      e = .returned (.bool (!hasB L x.key)) ∧ ∃ O', Tb w' b O' seed (growS S (putL L x).length) (putL L x) ∧ Grew O w O' w' := by
  obtain ⟨hf, L', hp, ht⟩ := h
  have hf' := hf.perm hp
  rw [← hp.length_eq] at ht
  refine (put_any b O seed S L' x w ht hS hf'.le hf'.nodup hf'.sizes hx).mono ?_
  rintro e w' ⟨rfl, O', L2, hp2, ht2, hg⟩
  have hpp := putL_perm hp x
  rw [hpp.length_eq] at ht2
  exact ⟨by rw [hasB_perm hp], O', ⟨hf.put hx, L2, hp2.trans hpp, ht2⟩, hg⟩

theorem tb_get {b : Nat} {O : Nat → Prop} {seed S : Nat} {L : List It} (key : ByteArray) {w : World} (h : Tb w b O seed S L) (hS : S ≤ 1000000) (hx : key.size ≤ 1000000000) :
    Calls Tryz.prog 8 #[.pointer (some ⟨b, 0, none⟩), .string key] w fun e w' => e = .returned (gotV (look L key)) ∧ ∃ O', Tb w' b O' seed S L ∧ Grew O w O' w' := by
  obtain ⟨hf, L', hp, ht⟩ := h
  have hf' := hf.perm hp
  refine (get_any b O seed _ S L' key w ht hS (by have := hf'.le; omega) hx hf'.nodup).mono ?_
  rintro e w' ⟨rfl, O', ht2, hg⟩
  exact ⟨by rw [look_perm hp hf.nodup], O', ⟨hf, L', hp, ht2⟩, hg⟩

theorem tb_len {b : Nat} {O : Nat → Prop} {seed S : Nat} {L : List It} {w : World} (h : Tb w b O seed S L) :
    Calls Tryz.prog 9 #[.pointer (some ⟨b, 0, none⟩)] w fun e w' => e = .returned (.int .i64 (L.length : Nat)) ∧ w = w' := by
  obtain ⟨hf, L', hp, ht⟩ := h
  exact len_any b O seed _ S L' w ht

theorem tb_slots {b : Nat} {O : Nat → Prop} {seed S : Nat} {L : List It} {w : World} (h : Tb w b O seed S L) :
    Calls Tryz.prog 10 #[.pointer (some ⟨b, 0, none⟩)] w fun e w' => e = .returned (.int .i64 (S : Nat)) ∧ ∃ O', Tb w' b O' seed S L ∧ Grew O w O' w' := by
  obtain ⟨hf, L', hp, ht⟩ := h
  refine (slots_any b O seed _ S L' w ht).mono ?_
  rintro e w' ⟨rfl, O', ht2, hg⟩
  exact ⟨rfl, O', ⟨hf, L', hp, ht2⟩, hg⟩

/-- A table that was made in this call: nothing that was there ahead of it has turned. -/
def OwnT (w0 w : World) (b seed S : Nat) (L : List It) : Prop := Kept (fun _ => False) w0 w ∧ ∃ O, Tb w b O seed S L ∧ ∀ k, O k → w0.heap.size ≤ k
theorem OwnT.step {w0 w w' : World} {b seed S' : Nat} {L' : List It} {O : Nat → Prop} (hk : Kept (fun _ => False) w0 w) (hO : ∀ k, O k → w0.heap.size ≤ k) {O' : Nat → Prop} (ht : Tb w' b O' seed S' L') (hg : Grew O w O' w') : OwnT w0 w' b seed S' L' :=
  ⟨hk.trans hg.1 (fun i hi h => by have := hO i h; omega), O', ht, fun k hk' => (hg.2 k hk').elim (hO k) (fun e => by have := hk.size; omega)⟩
theorem OwnT.kept {w0 w w' : World} {b seed S : Nat} {L : List It} (h : OwnT w0 w b seed S L) (hk : Kept (fun _ => False) w w') : OwnT w0 w' b seed S L := by
  obtain ⟨h1, O, h2, h3⟩ := h
  exact ⟨h1.trans hk (fun _ _ h => h), O, h2.kept hk (fun _ _ h => h), h3⟩

theorem own_new {w0 w : World} (seed : Nat) (hs : seed < 4294967296) (hk : Kept (fun _ => False) w0 w) :
    Calls Tryz.prog 5 #[.int .u32 (seed : Int)] w fun e w' => ∃ b, e = .returned (.pointer (some ⟨b, 0, none⟩)) ∧ OwnT w0 w' b seed 8 [] := by
  refine (tb_new seed w hs).mono ?_
  rintro e w' ⟨rfl, h1, h2⟩
  exact ⟨_, rfl, hk.trans h2 (fun _ _ h => h), _, h1, fun k e => by rw [e]; exact hk.size⟩
theorem own_put {w0 w : World} {b seed S : Nat} {L : List It} (x : It) {r : Bool} {S' : Nat} {L' : List It} (h : OwnT w0 w b seed S L) (hS : S ≤ 300000) (hx : x.key.size ≤ 1000000000) (hr : (!hasB L x.key) = r) (hL : putL L x = L') (hS' : growS S L'.length = S') :
    Calls Tryz.prog 6 #[.pointer (some ⟨b, 0, none⟩), .agg #[.string x.key, .string x.val, .int .i64 x.ver, .int .i64 x.til]] w fun e w' => e = .returned (.bool r) ∧ OwnT w0 w' b seed S' L' := by
  obtain ⟨h1, O, h2, h3⟩ := h
  subst hr hL hS'
  refine (tb_put x h2 hS hx).mono ?_
  rintro e w' ⟨rfl, O', ht, hg⟩
  exact ⟨rfl, .step h1 h3 ht hg⟩
theorem own_get {w0 w : World} {b seed S : Nat} {L : List It} (key : ByteArray) {r : Value} (h : OwnT w0 w b seed S L) (hS : S ≤ 1000000) (hx : key.size ≤ 1000000000) (hr : gotV (look L key) = r) :
    Calls Tryz.prog 8 #[.pointer (some ⟨b, 0, none⟩), .string key] w fun e w' => e = .returned r ∧ OwnT w0 w' b seed S L := by
  obtain ⟨h1, O, h2, h3⟩ := h
  subst hr
  refine (tb_get key h2 hS hx).mono ?_
  rintro e w' ⟨rfl, O', ht, hg⟩
  exact ⟨rfl, .step h1 h3 ht hg⟩
theorem own_len {w0 w : World} {b seed S : Nat} {L : List It} (h : OwnT w0 w b seed S L) :
    Calls Tryz.prog 9 #[.pointer (some ⟨b, 0, none⟩)] w fun e w' => e = .returned (.int .i64 (L.length : Nat)) ∧ w = w' := by
  obtain ⟨h1, O, h2, h3⟩ := h
  exact tb_len h2
theorem own_slots {w0 w : World} {b seed S : Nat} {L : List It} (h : OwnT w0 w b seed S L) :
    Calls Tryz.prog 10 #[.pointer (some ⟨b, 0, none⟩)] w fun e w' => e = .returned (.int .i64 (S : Nat)) ∧ OwnT w0 w' b seed S L := by
  obtain ⟨h1, O, h2, h3⟩ := h
  refine (tb_slots h2).mono ?_
  rintro e w' ⟨rfl, O', ht, hg⟩
  exact ⟨rfl, .step h1 h3 ht hg⟩
end Go.Proofs.YthdondhpgmjmpaaGreat
