/-
  Package table's walks, the third part: New, Len, Slots, Get.
-/
import Derived.Test.YthdondhpgmjmpaaGreatTabB
import Derived.Laws.ResultCell
namespace Go.Proofs.YthdondhpgmjmpaaGreat
set_option linter.unusedVariables false
set_option linter.unusedSimpArgs false
set_option linter.unnecessarySimpa false
open Go.RowKit
set_option maxRecDepth 100000

theorem new_table (seed : Nat) (w : World) (hs : seed < 4294967296) :
    Calls Tryz.prog 5 #[.int .u32 (seed : Int)] w fun e w' => e = .returned (.pointer (some ⟨w.heap.size, 0, none⟩)) ∧ Tab0 w' w.heap.size (fun k => k = w.heap.size) seed 0 8 [] ∧ Kept (fun _ => False) w w' := by
  have hn := heap_alloc_new w (.cells #[.int .u32 (seed : Int), .int .u32 0, .int .i32 0, .int .u32 0, .slice none 0 0, .int .i64 0] 67)
  have HN := Lib.hid (show Tab0 (w.alloc (.cells #[.int .u32 (seed : Int), .int .u32 0, .int .i32 0, .int .u32 0, .slice none 0 0, .int .i64 0] 67)) w.heap.size (fun k => k = w.heap.size) seed 0 8 [] from .inr ⟨rfl, rfl, rfl, hs, rfl, _, hn⟩)
  clear hn
  go_enter Tryz.func5, Tryz.ntmps5
  go_wp2_with fail
  go_ret
  exact ⟨rfl, HN.out, (Kept.refl _ w).alloc _⟩

theorem tab0_n {w : World} {b : Nat} {O : Nat → Prop} {seed : Nat} {n : Int} {S : Nat} {L : List It} (h : Tab0 w b O seed n S L) : w.cell? ⟨b, 5, none⟩ = some (.int .i64 n) := by
  rcases h with ⟨sema, g, vs, h⟩ | ⟨h1, rfl, h3, h4, h5, sema, h6⟩
  · simpa using cell_at h.blk 5
  · simpa using cell_at h6 5

theorem len_any (b : Nat) (O : Nat → Prop) (seed : Nat) (n : Int) (S : Nat) (L : List It) (w : World) (h : Tab0 w b O seed n S L) :
    Calls Tryz.prog 9 #[.pointer (some ⟨b, 0, none⟩)] w fun e w' => e = .returned (.int .i64 n) ∧ w = w' := by
  have k5 := tab0_n h
  go_enter Tryz.func9, Tryz.ntmps9
  go_wp2_with fail
  refine (atomic_load b 5 n _ k5).mono ?_
  rintro e w1 ⟨rfl, rfl⟩
  go_wp2_with fail
  go_ret
  exact ⟨rfl, rfl⟩

theorem slots_any (b : Nat) (O : Nat → Prop) (seed : Nat) (n : Int) (S : Nat) (L : List It) (w : World) (h : Tab0 w b O seed n S L) :
    Calls Tryz.prog 10 #[.pointer (some ⟨b, 0, none⟩)] w fun e w' => e = .returned (.int .i64 (S : Nat)) ∧ ∃ O', Tab0 w' b O' seed n S L ∧ Grew O w O' w' := by
  go_enter Tryz.func10, Tryz.ntmps10
  go_wp2_with fail
  refine (made_any b O seed n S L _ h).mono ?_
  rintro e w1 ⟨rfl, O1, sema, g, vs, h1, h2⟩
  have k4 := cell_at h1.blk 4
  simp at k4
  have HT := Lib.hid h1
  clear h1
  go_wp2_with fail
  go_ret
  exact ⟨rfl, O1, .inl ⟨_, _, _, HT.out⟩, h2⟩

/-- What Get answers. -/
def gotV (o : Option It) : Value := .tuple #[(o.getD It.none).v, .bool o.isSome]

theorem look_found {L : List It} {seed S : Nat} {k : ByteArray} {i : Nat} {x : It} (hn : (keys L).Nodup) (h : (rowOf seed S L (slotOf seed S k))[i]? = some x) (hk : x.key = k) : look L k = some x := by
  have hm := (mem_row.1 (List.mem_of_getElem? h)).1
  unfold look
  have gen : ∀ M : List It, (keys M).Nodup → x ∈ M → M.find? (fun y => decide (y.key = k)) = some x := by
    intro M
    induction M with
    | nil => intro _ h; cases h
    | cons y M ih =>
      intro hn h
      simp only [keys, List.map_cons, List.nodup_cons] at hn
      rcases List.mem_cons.1 h with rfl | h
      · rw [List.find?_cons_of_pos (by simpa using hk)]
      · rw [List.find?_cons_of_neg]
        · exact ih hn.2 h
        · simp only [decide_eq_true_eq]
          exact fun e => hn.1 (by rw [e, ← hk]; exact List.mem_map.2 ⟨x, h, rfl⟩)
  exact gen L hn hm
theorem look_none {L : List It} {k : ByteArray} (h : hasB L k = false) : look L k = none := by
  unfold look
  rw [List.find?_eq_none]
  intro x hx hk
  have : hasB L k = true := by
    unfold hasB
    rw [List.any_eq_true]
    exact ⟨x, hx, hk⟩
  rw [this] at h
  cases h

theorem kept_at {b o : Nat} {a w : World} (u : Value) (h : Kept (fun k => k = b) a w) : Kept (fun k => k = b) a (w.setCell ⟨b, o, none⟩ u) := h.setCell (p := ⟨b, o, none⟩) (fun _ => rfl) u

def Gets (w : World) (b : Nat) (O : Nat → Prop) (seed : Nat) (n : Int) (S : Nat) (L : List It) (key : ByteArray) (e : Ending) (w' : World) : Prop :=
  e = .returned (gotV (look L key)) ∧ ∃ O', Tab0 w' b O' seed n S L ∧ Grew O w O' w'

theorem get_any (b : Nat) (O : Nat → Prop) (seed : Nat) (n : Int) (S : Nat) (L : List It) (key : ByteArray) (w : World) (h : Tab0 w b O seed n S L) (hS : S ≤ 1000000) (hL : L.length ≤ 1000000) (hkey : key.size ≤ 1000000000) (hn : (keys L).Nodup) :
    Calls Tryz.prog 8 #[.pointer (some ⟨b, 0, none⟩), .string key] w (Gets w b O seed n S L key) := by
  have hkb : Kept (fun _ => False) w (w.alloc (.cells #[.string ByteArray.empty, .string ByteArray.empty, .int .i64 0, .int .i64 0] 39)) := (Kept.refl _ w).alloc _
  have hT := h.kept hkb (fun _ _ h => h)
  have hbox := heap_alloc_new w (.cells #[.string ByteArray.empty, .string ByteArray.empty, .int .i64 0, .int .i64 0] 39)
  have hpl : ¬ O w.heap.size := fun hh => by have := h.lt _ hh; omega
  obtain ⟨pl, hpl0⟩ : ∃ pl, pl = w.heap.size := ⟨_, rfl⟩
  rw [← hpl0] at hbox hpl
  have HP := Lib.hid hpl0
  clear h
  go_enter Tryz.func8, Tryz.ntmps8
  go_wp2_with fail
  rw [← hpl0]
  clear hpl0
  refine (place_any b O seed n S L key _ hT hS hL hkey).mono ?_
  rintro e w1 ⟨r, O1, sema, g, vs, rfl, hf, h1, h2⟩
  have hb1 := (h2.1.block pl (by simp [HP.out]) hpl).trans hbox
  have hhas := found_has hf
  have hO1 : ¬ O1 pl := fun hh => (h2.2 pl hh).elim hpl (fun e => by simp [HP.out] at e; omega)
  have fin : ∀ w2 o, look L key = o → Kept (fun k => k = pl) w1 w2 → Gets w b O seed n S L key (.returned (gotV o)) w2 := by
    rintro w2 o rfl hk
    refine ⟨rfl, O1, .inl ⟨sema, g, vs, h1.kept hk (fun k hO e => hO1 (e ▸ hO))⟩, ?_, fun k hk => (h2.2 k hk).imp id (fun e => by simp at e; omega)⟩
    exact ((hkb.mono (T := O) (fun _ _ h => h.elim)).trans h2.1 (fun _ _ h => h)).trans hk (fun i hi e => absurd hi (by rw [e, HP.out]; omega))
  have FIN := Lib.hid fin
  clear fin hbox hT hkb h2
  have c0 := cell_at hb1 0
  have c1 := cell_at hb1 1
  have c2 := cell_at hb1 2
  have c3 := cell_at hb1 3
  have f0 := frozen_at hb1 0
  have f1 := frozen_at hb1 1
  have f2 := frozen_at hb1 2
  have f3 := frozen_at hb1 3
  simp at c0 c1 c2 c3
  rcases hf with ⟨rfl, hno⟩ | ⟨i, x, rfl, hx, hk⟩
  · have hlook := Lib.hid (look_none (by simpa using hhas))
    clear h1 hno hhas
    go_wp2_with fail
    (try simp only [Exit.inBlock, Exit.then])
    refine bodyPost_ret (v := .tuple #[.agg #[.string ByteArray.empty, .string ByteArray.empty, .int .i64 0, .int .i64 0], .bool false]) ?_ rfl ?_
    · rw [results_cell_tmp rfl]
      go_simp
      try rfl
    · refine FIN.out _ _ hlook.out ?_
      exact kept_at _ (kept_at _ (kept_at _ (kept_at _ (Kept.refl _ _))))
  · have hlook := Lib.hid (look_found hn hx hk)
    have hslt := slotOf_lt (seed := seed) key h1.pos
    obtain ⟨u, hu⟩ : ∃ u, vs[slotOf seed S key]? = some u := ⟨_, List.getElem?_eq_getElem (by rw [h1.rows.len]; exact hslt)⟩
    have hsl := h1.rows.row _ _ hu
    have hlen := row_length_le L seed S (slotOf seed S key)
    have ug : w1.cell? ⟨g, slotOf seed S key, none⟩ = some u := by rw [cell_at h1.rows.blk]; simpa using hu
    have k4 := cell_at h1.blk 4
    simp at k4
    obtain ⟨hil, hxe⟩ := List.getElem?_eq_some_iff.1 hx
    have hrd := Rd.of_sl hsl
    obtain ⟨ao, ca, rfl, hca⟩ := hrd.shape
    obtain ⟨g2, off, rfl, x0, x1, x2, x3⟩ := rd_it hrd rfl i hil
    rw [hxe] at x0 x1 x2 x3
    clear hhas hx hk hu hsl hrd hxe h1
    generalize (rowOf seed S L (slotOf seed S key)).length = m at *
    generalize slotOf seed S key = s at *
    have hs63 : (s : Int) ≤ 9223372036854775807 := by omega
    go_wp2_with fail
    (try simp only [Exit.inBlock, Exit.then])
    refine bodyPost_ret (v := .tuple #[.agg #[.string x.key, .string x.val, .int .i64 x.ver, .int .i64 x.til], .bool true]) ?_ rfl ?_
    · rw [results_cell_tmp rfl]
      go_simp
      try rfl
    · refine FIN.out _ _ hlook.out ?_
      exact kept_at _ (kept_at _ (kept_at _ (kept_at _ (Kept.refl _ _))))
end Go.Proofs.YthdondhpgmjmpaaGreat
