/-
  Users.Names: as many names as there are users.
-/
import Derived.Test.YtgfpcjieonniiaaGreatUserD
import Derived.Test.YtgfpcjieonniiaaGreatIter
import Derived.Sort.KeysCollected
namespace Go.Proofs.YtgfpcjieonniiaaGreat
set_option linter.unusedVariables false
set_option linter.unusedSimpArgs false
set_option linter.unnecessarySimpa false
open Go.RowKit Go.Maps

def NamesSaid (w : World) (n : Nat) (e : Ending) (w' : World) : Prop := ∃ ao ca, e = .returned (.slice ao n ca) ∧ Kept (fun _ => False) w w'
theorem names_of_owns {w w1 w' : World} {v : Value} {E : TypeId} {n : Nat} {ss : List (List UInt8)} {xs : List Value} (hk : Kept (fun _ => False) w w1) (hn : ss.length = n) (h : w'.ownsRow w1.heap.size E 1 v ss.length xs) (hb : Below w1.heap.size w1 w') : NamesSaid w n (.returned v) w' := by
  obtain ⟨ao, ca, rfl, _⟩ := (Rd.of_sl (Sl.of_owns h)).shape
  exact ⟨ao, ca, by rw [hn], hk.trans (Kept.of_below hb) (fun _ _ h => h)⟩

set_option maxRecDepth 100000 in
set_option maxHeartbeats 800000 in
theorem names_any (b m : Nat) (L : List Usr) (w : World) (h : UsersAt w b m L) (hl : L.length ≤ 1000) :
    Calls Tryz.prog 12 #[.pointer (some ⟨b, 0, none⟩)] w (NamesSaid w L.length) := by
  have k0 := cell_at h.box 0
  simp at k0
  obtain ⟨D, hown, hsz, htidy, hD⟩ := h.map
  have hperm : (L.map (fun x => x.name.data.toList)).Perm (strKeys D) := by
    refine Collected.perm (left := fun _ => false) ⟨?_, fun x => ?_⟩ hown skey Tryz.underlying9 (fun _ => rfl)
    · have := h.names
      rw [show (L.map (fun x => x.name.data.toList)) = (L.map (·.name)).map (fun k => k.data.toList) by rw [List.map_map]; rfl]
      exact List.Pairwise.map _ (fun a b hab e => hab (bytes_ext e)) this
    · have := hD (.string x)
      rw [List.mem_map]
      cases hs : L.find? (fun y => y.name.data.toList == x) with
      | none =>
        simp only [atName, hs, Option.map_none] at this
        have h2 := List.find?_eq_none.1 hs
        constructor
        · rintro ⟨y, hy, rfl⟩
          exact absurd (beq_self_eq_true _) (h2 y hy)
        · intro hh
          rw [this] at hh
          simp at hh
      | some y =>
        simp only [atName, hs, Option.map_some] at this
        have h2 := List.find?_some hs
        have h3 := List.mem_of_find?_eq_some hs
        constructor
        · intro _
          simp [this.1]
        · intro _
          exact ⟨y, h3, by simpa using h2⟩
  have hlen := hperm.length_eq
  rw [List.length_map] at hlen
  have FIN := Lib.hid (fun (v : Value) (w1 w' : World) (ss : List (List UInt8)) (E : TypeId) (xs : List Value) (hk : Kept (fun _ => False) w w1) (hs : ss.Perm (strKeys D)) h hb => names_of_owns (w := w) (w1 := w1) (w' := w') (v := v) (E := E) (n := L.length) (xs := xs) hk (hs.length_eq.trans hlen.symm) h hb)
  have SK := Lib.hid (fun (W : World) (hW : W.ownsMap Tryz.prog 9 asIs m (size D) D) => Tryz.sorted_keys m (size D) D asIs W hW (by rw [hsz]; unfold maxLen; omega) (by rw [hsz]; omega))
  have OWN := Lib.hid (Mp.exact hown)
  clear h hperm hD htidy hown hsz hlen
  go_enter Tryz.func12, Tryz.ntmps12
  go_wp2_with fail
  refine (Tryz.maps_Keys (some m) _).mono ?_
  rintro e w1 ⟨rfl, rfl⟩
  go_wp2_with fail
  refine (SK.out _ OWN.out).mono ?_
  rintro e w2 ⟨v, ss, rfl, hs, hrow, _, hb⟩
  have HF := Lib.hid (FIN.out v _ w2 ss _ _ ((Kept.refl _ w).alloc _) hs hrow hb)
  clear hs hrow hb
  go_wp2_with fail
  go_ret
  exact HF.out
end Go.Proofs.YtgfpcjieonniiaaGreat
