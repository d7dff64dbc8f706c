/-
  A set of texts in a map of the law's own, beside a cache.
-/
import Derived.Test.YtehpafebpgndeaaGreatDoorCacheW
import Derived.Test.YtehpafebpgndeaaGreatDoorMap
namespace Go.Proofs.YtehpafebpgndeaaGreatDoor
set_option linter.unusedVariables false
set_option linter.unusedSimpArgs false
set_option linter.unnecessarySimpa false
open Go.RowKit Go.Maps
set_option maxRecDepth 100000

open Classical in
noncomputable def setF (ks : List ByteArray) (x : Lit) : Option Value := if ∃ k ∈ ks, x = .string k.data.toList then some (.bool true) else none
theorem tolist_inj {a b : ByteArray} (h : a.data.toList = b.data.toList) : a = b := ByteArray.ext (Array.ext' h)
theorem setF_some {ks : List ByteArray} {k : ByteArray} (h : k ∈ ks) : setF ks (.string k.data.toList) = some (.bool true) := if_pos ⟨k, h, rfl⟩
theorem setF_none {ks : List ByteArray} {k : ByteArray} (h : k ∉ ks) : setF ks (.string k.data.toList) = none := by
  refine if_neg ?_
  rintro ⟨j, hj, e⟩
  injection e with e
  exact h (tolist_inj e ▸ hj)
theorem setF_nil (x : Lit) : setF [] x = none := if_neg (by rintro ⟨k, hk, _⟩; cases hk)
theorem setF_upd (ks : List ByteArray) (k : ByteArray) (x : Lit) : upd (setF ks) (.string k.data.toList) (some (.bool true)) x = setF (ks ++ [k]) x := by
  unfold upd
  by_cases hx : x = .string k.data.toList
  · rw [if_pos hx, hx, setF_some (by simp)]
  · rw [if_neg hx]
    unfold setF
    by_cases h : ∃ j ∈ ks, x = .string j.data.toList
    · obtain ⟨j, hj, e⟩ := h
      rw [if_pos ⟨j, hj, e⟩, if_pos ⟨j, by simp [hj], e⟩]
    · rw [if_neg h, if_neg ?_]
      rintro ⟨j, hj, e⟩
      rcases List.mem_append.1 hj with hj | hj
      · exact h ⟨j, hj, e⟩
      · rw [List.mem_singleton.1 hj] at e
        exact hx e
theorem skeyC : Keyed Tryz.prog 9 := string_keyed Tryz.underlying9
theorem skeyOf {k : ByteArray} (h : k.size ≤ maxLen) : keyOf Tryz.prog 9 (.string k) = some (.string k.data.toList) := WideMaps.keyOf_string_mk Tryz.underlying9 h
theorem mp_block {w : World} {P : Program} {k : TypeId} {b cnt : Nat} {f : Lit → Option Value} (h : Mp w P k b cnt f) : ∃ o, w.heap[b]? = some o := ⟨_, Array.getElem?_eq_getElem h.lt⟩
/-- A cache, and the map beside it. -/
def MapC (w0 w : World) (c : Nat) (s : CSt) (m : Int) (b cnt : Nat) (f : Lit → Option Value) : Prop := ∃ o, OwnC w0 w c s m [(b, o)] ∧ Mp w Tryz.prog 9 b cnt f
section
variable {w0 w w' : World} {c b cnt : Nat} {s s' : CSt} {m : Int} {f g : Lit → Option Value}
theorem MapC.made (h : OwnC w0 w c s m []) : MapC w0 (w.alloc (.map #[] 0)) c s m w.heap.size 0 (setF []) :=
  ⟨_, h.alloc _, (Mp.made w _ _).ext fun x => (setF_nil x).symm⟩
theorem MapC.ext (h : MapC w0 w c s m b cnt f) (hg : ∀ x, f x = g x) : MapC w0 w c s m b cnt g := by
  obtain ⟨o, h1, h2⟩ := h
  exact ⟨o, h1, h2.ext hg⟩
theorem MapC.keep (h : MapC w0 w c s m b cnt f) : Kept (fun _ => False) w0 w := by
  obtain ⟨o, h1, _⟩ := h
  exact h1.keep
theorem MapC.does (h : MapC w0 w c s m b cnt f) (hm : m ≤ 1000000000) (x : Cm) (now : Int) (hk : x.key.size ≤ 1000000000) (hv : x.val.size ≤ 1000000000) (h11 : x.op ≠ 11) (h12 : x.op ≠ 12) {r : Rp} (hr : doC s x now = (r, s')) :
    Calls Tryz.prog 27 #[.pointer (some ⟨c, 0, none⟩), .agg #[.int .i64 x.op, .string x.key, .string x.val, .int .i64 x.num, .int .i64 x.ver], .int .i64 now] w fun e w' => e = .returned (.agg #[.int .i64 r.errno, .string r.val, .int .i64 r.num, .int .i64 r.ver, .slice none 0 0]) ∧ MapC w0 w' c s' (m + 1) b cnt f := by
  obtain ⟨o, h1, h2⟩ := h
  refine (own_do h1 hm x now hk hv h11 h12 hr).mono ?_
  rintro e w' ⟨rfl, h3⟩
  exact ⟨rfl, o, h3, h2.same (by rw [(h3.2.box (b, o) (.head _)).1, (h1.2.box (b, o) (.head _)).1])⟩
theorem MapC.put (h : MapC w0 w c s m b cnt f) {cnt' : Nat} (h2 : Mp w' Tryz.prog 9 b cnt' g) (hk : Kept (fun i => i = b) w w') : MapC w0 w' c s m b cnt' g := by
  obtain ⟨o, h1, _⟩ := h
  obtain ⟨o', ho'⟩ := mp_block h2
  exact ⟨o', ⟨h1.1, h1.2.over hk ho'⟩, h2⟩
theorem MapC.kept0 (h : MapC w0 w c s m b cnt f) (hk : Kept (fun _ => False) w w') : MapC w0 w' c s m b cnt f := by
  obtain ⟨o, h1, h2⟩ := h
  exact ⟨o, h1.kept0 hk, h2.kept hk (fun h => h)⟩
end
end Go.Proofs.YtehpafebpgndeaaGreatDoor
