/-
  The law TablePlays: plain laws on a table, the items had in a map, and the Book.
-/
import Derived.Test.YthdondhpgmjmpaaGreatTabI
import Derived.Test.YthdondhpgmjmpaaGreatBkHasTexts
import Derived.Test.YthdondhpgmjmpaaGreatTri
import Derived.Test.YthdondhpgmjmpaaGreatMap
namespace Go.Proofs.YthdondhpgmjmpaaGreat
set_option linter.unusedVariables false
set_option linter.unusedSimpArgs false
set_option linter.unnecessarySimpa false
open Go.RowKit Go.Maps
set_option maxRecDepth 100000

theorem skeyT : Keyed Tryz.prog 9 := string_keyed Tryz.underlying9
theorem skeyOfT {k : ByteArray} (h : k.size ≤ maxLen) : keyOf Tryz.prog 9 (.string k) = some (.string k.data.toList) := WideMaps.keyOf_string_mk Tryz.underlying9 h
theorem tolist_inj {a b : ByteArray} (h : a.data.toList = b.data.toList) : a = b := ByteArray.ext (Array.ext' h)

open Classical in
/-- The items as a map's content. -/
noncomputable def itF (L : List It) (x : Lit) : Option Value := if h : ∃ k : ByteArray, x = .string k.data.toList then (look L h.choose).map It.v else none
theorem itF_at (L : List It) (k : ByteArray) : itF L (.string k.data.toList) = (look L k).map It.v := by
  have h : ∃ j : ByteArray, Lit.string k.data.toList = .string j.data.toList := ⟨k, rfl⟩
  unfold itF
  rw [dif_pos h]
  have := h.choose_spec
  injection this with this
  rw [← tolist_inj this]
theorem itF_else (L : List It) (x : Lit) (h : ¬ ∃ k : ByteArray, x = .string k.data.toList) : itF L x = none := dif_neg h
theorem itF_nil (x : Lit) : itF [] x = none := by
  by_cases h : ∃ k : ByteArray, x = .string k.data.toList
  · obtain ⟨k, rfl⟩ := h
    rw [itF_at]; rfl
  · exact itF_else _ _ h

theorem look_cons (y : It) (L : List It) (k : ByteArray) : look (y :: L) k = if y.key = k then some y else look L k := by
  unfold look
  rw [List.find?_cons]
  by_cases h : y.key = k
  · simp [h]
  · simp [h]
theorem look_app (L : List It) (x : It) (k : ByteArray) : look (L ++ [x]) k = match look L k with | some y => some y | none => if x.key = k then some x else none := by
  induction L with
  | nil =>
    rw [List.nil_append, look_cons]
    rfl
  | cons y L ih =>
    rw [List.cons_append, look_cons, look_cons]
    by_cases h : y.key = k
    · rw [if_pos h, if_pos h]
    · rw [if_neg h, if_neg h, ih]
theorem look_rep_ne (L : List It) (x : It) (k : ByteArray) (h : x.key ≠ k) : look (repL L x) k = look L k := by
  induction L with
  | nil => rfl
  | cons y L ih =>
    show look ((if y.key = x.key then x else y) :: repL L x) k = _
    rw [look_cons, look_cons, ih]
    by_cases e : y.key = x.key
    · rw [if_pos e, if_neg h, if_neg (by rw [e]; exact h)]
    · rw [if_neg e]
theorem look_rep_eq (L : List It) (x : It) (h : hasB L x.key = true) : look (repL L x) x.key = some x := by
  induction L with
  | nil => cases h
  | cons y L ih =>
    show look ((if y.key = x.key then x else y) :: repL L x) x.key = _
    rw [look_cons]
    by_cases e : y.key = x.key
    · rw [if_pos e, if_pos rfl]
    · rw [if_neg e, if_neg e]
      apply ih
      unfold hasB at h ⊢
      simpa [e] using h
theorem look_isSome (L : List It) (k : ByteArray) : (look L k).isSome = hasB L k := by
  induction L with
  | nil => rfl
  | cons y L ih =>
    rw [look_cons]
    unfold hasB at ih ⊢
    by_cases e : y.key = k
    · simp [e]
    · rw [if_neg e, ih]; simp [e]
theorem look_put_if (L : List It) (x : It) (k : ByteArray) : look (putL L x) k = if k = x.key then some x else look L k := by
  unfold putL
  by_cases e : k = x.key
  · subst e
    rw [if_pos rfl]
    split
    · rename_i h
      exact look_rep_eq L x h
    · rename_i h
      rw [look_app]
      have hn : look L x.key = none := by
        have := look_isSome L x.key
        cases hl : look L x.key with
        | none => rfl
        | some y => rw [hl] at this; simp at this; exact absurd this.symm (by simpa using h)
      rw [hn]
      simp
  · rw [if_neg e]
    split
    · exact look_rep_ne L x k (fun h => e h.symm)
    · rw [look_app]
      cases look L k with
      | none => simp only []; rw [if_neg (fun h : x.key = k => e h.symm)]
      | some y => rfl
theorem look_del_if (L : List It) (k j : ByteArray) : look (delL L k) j = if j = k then none else look L j := by
  induction L with
  | nil => simp [delL, look]
  | cons y L ih =>
    unfold delL at ih ⊢
    rw [List.filter_cons]
    by_cases e : y.key = k
    · rw [if_neg (by simpa using e), ih, look_cons]
      by_cases hj : j = k
      · rw [if_pos hj, if_pos hj]
      · rw [if_neg hj, if_neg hj, if_neg (by rw [e]; exact fun h => hj h.symm)]
    · rw [if_pos (by simpa using e), look_cons, look_cons, ih]
      by_cases hj : j = k
      · rw [if_pos hj, if_pos hj, if_neg (by rw [hj]; exact e)]
      · rw [if_neg hj, if_neg hj]
theorem itF_put (L : List It) (x : It) (z : Lit) : upd (itF L) (.string x.key.data.toList) (some x.v) z = itF (putL L x) z := by
  unfold upd
  by_cases hz : ∃ k : ByteArray, z = .string k.data.toList
  · obtain ⟨k, rfl⟩ := hz
    rw [itF_at, itF_at, look_put_if]
    by_cases e : k = x.key
    · subst e; simp
    · rw [if_neg e, if_neg (fun h => by injection h with h; exact e (tolist_inj h))]
  · rw [itF_else _ _ hz, itF_else _ _ hz, if_neg (fun h => hz ⟨_, h⟩)]
theorem itF_del (L : List It) (k : ByteArray) (z : Lit) : upd (itF L) (.string k.data.toList) none z = itF (delL L k) z := by
  unfold upd
  by_cases hz : ∃ j : ByteArray, z = .string j.data.toList
  · obtain ⟨j, rfl⟩ := hz
    rw [itF_at, itF_at, look_del_if]
    by_cases e : j = k
    · subst e; simp
    · rw [if_neg e, if_neg (fun h => by injection h with h; exact e (tolist_inj h))]
  · rw [itF_else _ _ hz, itF_else _ _ hz, if_neg (fun h => hz ⟨_, h⟩)]
theorem itF_some (L : List It) (k : ByteArray) : (itF L (.string k.data.toList)).isSome = hasB L k := by rw [itF_at, ← look_isSome]; cases look L k <;> rfl
theorem putL_len (L : List It) (x : It) : (putL L x).length = if hasB L x.key then L.length else L.length + 1 := by
  unfold putL
  split
  · simp [repL]
  · simp
theorem delL_none {L : List It} {k : ByteArray} (h : hasB L k = false) : delL L k = L := by
  unfold delL
  rw [List.filter_eq_self]
  intro y hy
  rw [decide_eq_true_eq]
  intro e
  have : hasB L k = true := by unfold hasB; rw [List.any_eq_true]; exact ⟨y, hy, by simpa using e⟩
  rw [h] at this
  cases this
theorem delL_len {L : List It} (hn : (keys L).Nodup) (k : ByteArray) : (delL L k).length = if hasB L k then L.length - 1 else L.length := by
  induction L with
  | nil => rfl
  | cons y L ih =>
    unfold keys at hn ih
    rw [List.map_cons, List.nodup_cons] at hn
    have ih := ih hn.2
    by_cases e : y.key = k
    · have hno : hasB L k = false := by
        cases h : hasB L k with
        | false => rfl
        | true =>
          unfold hasB at h
          rw [List.any_eq_true] at h
          obtain ⟨z, hz, hk⟩ := h
          simp at hk
          exact absurd (List.mem_map.2 ⟨z, hz, hk.trans e.symm⟩) hn.1
      have hyes : hasB (y :: L) k = true := by unfold hasB; simp [e]
      rw [hyes, if_pos rfl]
      have : delL (y :: L) k = delL L k := by unfold delL; rw [List.filter_cons, if_neg (by simpa using e)]
      rw [this, delL_none hno]
      simp
    · have hsame : hasB (y :: L) k = hasB L k := by unfold hasB; simp [e]
      have : delL (y :: L) k = y :: delL L k := by unfold delL; rw [List.filter_cons, if_pos (by simpa using e)]
      rw [this, hsame, List.length_cons, List.length_cons, ih]
      split
      · rename_i h
        have : 0 < L.length := by
          cases L with
          | nil => cases h
          | cons a b => simp
        omega
      · rfl

theorem zero_item (w : World) : (zeroValue 39).run Tryz.prog w = .ok It.none.v w := by kernel_rfl
/-- 'v, ok := have[k]'. -/
theorem have_look {w : World} {hb mc : Nat} {L : List It} (h : Mp w Tryz.prog 9 hb mc (itF L)) (k : ByteArray) (hk : k.size ≤ maxLen) :
    (Instr.lookup 27 (.map (some hb)) (.string k) true).run Tryz.prog w = .ok (gotV (look L k)) w := by
  rw [h.look_ok skeyT Tryz.underlying27 (zero_item w) (skeyOfT hk), itF_at]
  unfold gotV
  cases look L k <;> rfl

/-- The table, the items had, the Book: of the call's own, sharing no block. -/
structure PlayT (w wr : World) (b hb kb seed S : Nat) (L : List It) (O F : Nat → Prop) (Ls : List (List ByteArray)) : Prop where
  tab : Tb wr b O seed S L
  map : Mp wr Tryz.prog 9 hb L.length (itF L)
  book : BookHas wr kb F Ls
  tri : Tri w wr O (fun k => k = hb) F

section
variable {w wr w2 : World} {b hb kb seed S : Nat} {L : List It} {O F : Nat → Prop} {Ls : List (List ByteArray)}
theorem PlayT.keep (h : PlayT w wr b hb kb seed S L O F Ls) (hk : Kept (fun _ => False) wr w2) : PlayT w w2 b hb kb seed S L O F Ls :=
  ⟨h.tab.kept hk (fun _ _ h => h), h.map.kept hk (fun h => h), h.book.kept hk (fun _ _ h => h), h.tri.keep hk⟩
/-- Behind a call that turned the table: the other two as they were. -/
theorem PlayT.turn (h : PlayT w wr b hb kb seed S L O F Ls) {O' : Nat → Prop} (hg : Grew O wr O' w2) (hlt : ∀ k, O' k → k < w2.heap.size) : Mp w2 Tryz.prog 9 hb L.length (itF L) ∧ BookHas w2 kb F Ls ∧ Tri w w2 O' (fun k => k = hb) F :=
  ⟨h.map.kept hg.1 (fun e => h.tri.ab _ e rfl), h.book.kept hg.1 (fun k hk e => h.tri.ac k e hk), h.tri.turn1 hg.1 hg.2 hlt⟩
theorem PlayT.got (h : PlayT w wr b hb kb seed S L O F Ls) {O' : Nat → Prop} (ht : Tb w2 b O' seed S L) (hg : Grew O wr O' w2) : PlayT w w2 b hb kb seed S L O' F Ls := by
  obtain ⟨h1, h2, h3⟩ := h.turn hg ht.lt
  exact ⟨ht, h1, h2, h3⟩
/-- Behind Put and the store in the map. -/
theorem PlayT.put {w3 : World} (h : PlayT w wr b hb kb seed S L O F Ls) (x : It) {S' : Nat} {O' : Nat → Prop} (ht : Tb w2 b O' seed S' (putL L x)) (hg : Grew O wr O' w2) {c : Nat} (hc : c = if (itF L (.string x.key.data.toList)).isSome then L.length else L.length + 1)
    (hm : Mp w3 Tryz.prog 9 hb c (upd (itF L) (.string x.key.data.toList) (some x.v))) (hk : Kept (fun k => k = hb) w2 w3) : PlayT w w3 b hb kb seed S' (putL L x) O' F Ls := by
  obtain ⟨h1, h2, h3⟩ := h.turn hg ht.lt
  have e : c = (putL L x).length := by rw [hc, putL_len, itF_some]
  subst e
  refine ⟨ht.kept hk (fun k hO e => h3.ab k hO e), hm.ext (itF_put L x), h2.kept hk (fun k hF e => h3.bc k e hF), h3.turn2 hk (fun k hk => .inl hk) (fun k hk => ?_)⟩
  rw [hk]
  exact hm.lt
/-- Behind Del and the delete from the map. -/
theorem PlayT.del {w3 : World} (h : PlayT w wr b hb kb seed S L O F Ls) (k : ByteArray) {S' : Nat} {O' : Nat → Prop} (ht : Tb w2 b O' seed S' (delL L k)) (hg : Grew O wr O' w2) {c : Nat} (hc : c = if (itF L (.string k.data.toList)).isSome then L.length - 1 else L.length)
    (hm : Mp w3 Tryz.prog 9 hb c (upd (itF L) (.string k.data.toList) none)) (hk : Kept (fun k => k = hb) w2 w3) : PlayT w w3 b hb kb seed S' (delL L k) O' F Ls := by
  obtain ⟨h1, h2, h3⟩ := h.turn hg ht.lt
  have e : c = (delL L k).length := by rw [hc, delL_len h.tab.1.nodup, itF_some]
  subst e
  refine ⟨ht.kept hk (fun k hO e => h3.ab k hO e), hm.ext (itF_del L k), h2.kept hk (fun k hF e => h3.bc k e hF), h3.turn2 hk (fun k hk => .inl hk) (fun k hk => ?_)⟩
  rw [hk]
  exact hm.lt
theorem PlayT.one {w5 w6 : World} (h : PlayT w wr b hb kb seed S L O F Ls) (hk : Kept (fun _ => False) wr w5) {u : Value} {K : List ByteArray} (hu : ∀ k, u.ownBlock = some k → wr.heap.size ≤ k) {F' : Nat → Prop} (h1 : BookHas w6 kb F' (Ls ++ [K])) (h2 : Kept F w5 w6) (h3 : ∀ k, F' k → F k ∨ u.ownBlock = some k ∨ w5.heap.size ≤ k) :
    PlayT w w6 b hb kb seed S L O F' (Ls ++ [K]) := by
  have hz := hk.size
  have hkk : Kept F wr w6 := (hk.mono (fun _ _ h => h.elim)).trans h2 (fun _ _ h => h)
  refine ⟨h.tab.kept hkk (fun k hk e => h.tri.ac k hk e), h.map.kept hkk (fun e => h.tri.bc _ rfl e), h1, h.tri.turn3 hkk (fun k hk => ?_) (fun k hk => h1.lt k hk)⟩
  rcases h3 k hk with e | e | e
  · exact .inl e
  · exact .inr (hu k e)
  · exact .inr (by omega)
/-- The start. -/
theorem PlayT.start {w1 wA : World} (hk : Kept (fun _ => False) w w1) (ht : Tb wA w1.heap.size (fun k => k = w1.heap.size) seed 8 []) (hkA : Kept (fun _ => False) w1 wA) (h2 : w2 = (wA.alloc (.map #[] 0)).alloc (.cells (bookArr (.slice none 0 0) (.slice none 0 0)) 37)) :
    PlayT w w2 w1.heap.size wA.heap.size (wA.heap.size + 1) seed 8 [] (fun k => k = w1.heap.size) (fun k => k = wA.heap.size + 1) [] := by
  subst h2
  have hz := hk.size
  have hlt := ht.lt _ rfl
  have mB := Mp.made wA Tryz.prog 9
  generalize hB : wA.alloc (.map #[] 0) = wB at *
  have hsB : wB.heap.size = wA.heap.size + 1 := by rw [← hB]; simp
  have kB : Kept (fun _ => False) wA wB := by rw [← hB]; exact (Kept.refl _ _).alloc _
  have bC := BookHas.new wB
  rw [hsB] at bC
  have kC : Kept (fun _ => False) wB (wB.alloc (.cells (bookArr (.slice none 0 0) (.slice none 0 0)) 37)) := (Kept.refl _ _).alloc _
  generalize wB.alloc (.cells (bookArr (.slice none 0 0) (.slice none 0 0)) 37) = wC at *
  have tb := (ht.kept kB (fun _ _ h => h)).kept kC (fun _ _ h => h)
  have mp := mB.kept kC (fun h => h)
  refine ⟨tb, mp.ext (fun x => (itF_nil x).symm), bC, ⟨((hk.trans hkA (fun _ _ h => h)).trans kB (fun _ _ h => h)).trans kC (fun _ _ h => h), fun k hk => ?_, fun k hk => ?_, fun k h1 h2 => ?_, fun k h1 h2 => ?_, fun k h1 h2 => ?_⟩⟩
  · rcases hk with h | h | h <;> omega
  · rcases hk with h | h | h
    · exact tb.lt k h
    · rw [h]; exact mp.lt
    · exact bC.lt k h
  · omega
  · omega
  · omega
end
/-- Slots are enough, and few. -/
theorem growS_few {S m : Nat} (hS : S ≤ 300) (hm : m ≤ 150) : growS S m ≤ 300 := by
  unfold growS
  split <;> omega
end Go.Proofs.YthdondhpgmjmpaaGreat
