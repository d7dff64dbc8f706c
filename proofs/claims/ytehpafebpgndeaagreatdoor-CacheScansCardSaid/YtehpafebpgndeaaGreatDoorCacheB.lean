/-
  Package cache's walks, the first part: Cost, until, taking a key out of the order, del.
-/
import Derived.Test.YtehpafebpgndeaaGreatDoorCacheA
import Derived.Test.YtehpafebpgndeaaGreatDoorShelf
import Derived.Lib.RowBridge
import Derived.BigRegion
import Derived.Deep.DeepCutAuto
namespace Go.Proofs.YtehpafebpgndeaaGreatDoor
set_option linter.unusedVariables false
set_option linter.unusedSimpArgs false
set_option linter.unnecessarySimpa false
open Go.RowKit
set_option maxRecDepth 100000

theorem cost_any (x : It) (w : World) (hk : x.key.size ≤ 1000000000) (hv : x.val.size ≤ 1000000000) :
    Calls Tryz.prog 24 #[.agg #[.string x.key, .string x.val, .int .i64 x.ver, .int .i64 x.til]] w fun e w' => e = .returned (.int .i64 (costI x)) ∧ Kept (fun _ => False) w w' := by
  have hc : 16 + (x.key.size : Int) + (x.val.size : Int) = costI x := rfl
  have HC := Lib.hid hc
  clear hc
  go_enter Tryz.func24, Tryz.ntmps24
  go_wp2_with fail
  go_ret
  exact ⟨by rw [← HC.out]; rfl, (Kept.refl _ w).alloc _⟩

theorem until_any (n now : Int) (w : World) (hn0 : -1000000000000 ≤ n) (hn1 : n ≤ 1000000000000) (h0 : 0 ≤ now) (h1 : now ≤ 1000000000000) :
    Calls Tryz.prog 104 #[.int .i64 n, .int .i64 now] w fun e w' => e = .returned (.int .i64 (untilC n now)) ∧ w = w' := by
  by_cases hz : n = 0
  · have hc : untilC n now = 0 := if_pos hz
    rw [hc]
    subst hz
    go_enter Tryz.func104, Tryz.ntmps104
    go_wp2_with fail
    go_ret
    exact ⟨rfl, rfl⟩
  · have hc : untilC n now = now + n := if_neg hz
    rw [hc]
    have hz' : (n == 0) = false := by simpa using hz
    go_enter Tryz.func104, Tryz.ntmps104
    go_wp2_with fail
    go_ret
    exact ⟨rfl, rfl⟩

/-- 'del$1': is it the key? -/
theorem is_key (x key : ByteArray) (pl : Nat) (w : World) (hp : w.cell? ⟨pl, 0, none⟩ = some (.string key)) :
    Calls Tryz.prog 133 #[.string x, .pointer (some ⟨pl, 0, none⟩)] w fun e w' => e = .returned (.bool (decide (x = key))) ∧ ∃ q, w' = w.drewN q := by
  go_enter Tryz.func133, Tryz.ntmps133
  go_wp2_with fail
  go_ret
  exact ⟨congrArg (fun b => Ending.returned (.bool b)) (bytes_beq _ _), 0, rfl⟩

/-- slices.DeleteFunc with it. -/
def Struck (w : World) (v : Value) (K : List ByteArray) (key : ByteArray) (e : Ending) (w' : World) : Prop :=
  ∃ v', e = .returned v' ∧ Sl w' 9 1 (K.filter (fun x => decide (x ≠ key))).length v' (strs (K.filter (fun x => decide (x ≠ key)))) ∧ Kept (fun k => v.ownBlock = some k) w w' ∧ ∀ k, v'.ownBlock = some k → v.ownBlock = some k

theorem put_world {w : World} {blk off q : Nat} {d : Array ByteArray} {ys : List ByteArray} (hH : Go.Sort.Holds Value.string w blk off d) (h : ys.length = d.size) : Go.Sort.putRow Value.string (Go.Sort.ahead w q) blk off ys.toArray = (w.drewN q).setCells blk off (strs ys) :=
  Go.Lib.putRow_eq_setCells Value.string w blk off d ys q hH h

theorem strike_key (v : Value) (K : List ByteArray) (pl : Nat) (key : ByteArray) (w : World) (h : Sl w 9 1 K.length v (strs K)) (hK : K.length ≤ 1000000) (hp : w.cell? ⟨pl, 0, none⟩ = some (.string key)) (hpl : v.ownBlock ≠ some pl) :
    Calls Tryz.prog 132 #[v, .func (.func 133) #[] #[.pointer (some ⟨pl, 0, none⟩)]] w (Struck w v K key) := by
  have hplt := World.block_lt_of_cell? w ⟨pl, 0, none⟩ hp
  rcases h.form with ⟨rfl, h0, h00⟩ | ⟨g, off, cap, rfl, hc, hlt⟩
  · obtain rfl : K = [] := List.eq_nil_of_length_eq_zero h0
    have FIN : Hid (Struck w (.slice none 0 0) [] key (.returned (.slice none 0 0)) w) := Lib.hid ⟨_, rfl, h, Kept.refl _ _, fun _ hk => hk⟩
    clear h
    go_enter Tryz.func132, Tryz.ntmps132
    go_wp2_with fail
    refine (Tryz.slices_IndexFunc_empty (α := ByteArray) none 0 _ w).mono ?_
    rintro e w1 ⟨rfl, hw⟩
    subst hw
    go_wp2_with fail
    go_ret
    exact FIN.out
  · have hgp : g ≠ pl := fun e => hpl (by rw [e]; rfl)
    have hs := h.cell rfl
    have hH : Go.Sort.Holds Value.string w g off K.toArray := by
      intro j hj
      have hj' : j < K.length := by simpa using hj
      have h1 := hs j (.string K[j]) (by simp [strs, List.getElem?_eq_getElem hj'])
      rw [Addr.add_lit] at h1
      refine ⟨?_, ?_⟩
      · rw [h1]
        simp [hj']
      · rcases h.2 with ⟨hv, _⟩ | ⟨g', off', cap', cur, hv, hg, _⟩
        · cases hv
        · injection hv with h2
          injection h2 with h2
          injection h2 with h3 h4
          subst h3 h4
          exact frozen_at hg _
    have hpa : PredAt Tryz.prog 133 #[.pointer (some ⟨pl, 0, none⟩)] Value.string (fun x => decide (x = key)) w :=
      fun W x hb => is_key x key pl W ((hb.cell (p := ⟨pl, 0, none⟩) hplt).trans hp)
    have hpo : PredOver Tryz.prog 133 #[.pointer (some ⟨pl, 0, none⟩)] Value.string (fun x => decide (x = key)) g off K.toArray.size w := by
      intro n os dk x hdk
      refine is_key x key pl _ ?_
      unfold sortWorld
      rw [show dk = dk.toList.toArray by simp, put_world hH (by simpa using hdk)]
      have h1 : Kept (fun k => k = g) w (Go.Sort.grow ((w.drewN n).setCells g off (strs dk.toList)) os) := (((Kept.refl _ w).drewN n).trans (setCells_kept _ g off _) (fun _ _ h => h)).trans (grow_kept _ _) (fun _ _ h => h.elim)
      exact (h1.cell (p := ⟨pl, 0, none⟩) hplt (fun e => hgp e.symm)).trans hp
    have hd := Tryz.slices_DeleteFunc Value.string (fun _ => rfl) (fun x => decide (x = key)) 133 #[.pointer (some ⟨pl, 0, none⟩)] (enters_of Tryz.func133 (by kernel_rfl) rfl) ByteArray.empty (fun w => by kernel_rfl) g off cap K.toArray w hpa hpo hH (by simp; omega) (by simpa using hc)
    simp only [List.size_toArray] at hd
    refine hd.mono ?_
    rintro e w' ⟨rfl, q, rfl⟩
    have hf : (K.filter fun x => !decide (x = key)) = K.filter (fun x => decide (x ≠ key)) := by
      apply List.filter_congr
      intro x _
      simp
    unfold Struck
    rw [hf]
    have hle : (K.filter (fun x => decide (x ≠ key))).length ≤ K.length := List.length_filter_le _ _
    generalize K.filter (fun x => decide (x ≠ key)) = K' at *
    rw [put_world hH (by simp; omega)]
    refine ⟨_, rfl, ?_, ((Kept.refl _ w).drewN q).trans (setCells_kept _ g off _) (fun i _ e => by rw [e]; rfl), fun k hk => hk⟩
    have h1 := (h.drew.fill (w := w.drewN q) (ys := strs (K' ++ List.replicate (K.length - K'.length) ByteArray.empty)) (by rw [strs_length, List.length_append, List.length_replicate]; omega))
    have h2 := h1.cut rfl 0 K'.length (Nat.zero_le _) hle
    simp only [Nat.zero_mul, Nat.add_zero, Nat.sub_zero, List.drop_zero, Nat.mul_one] at h2
    have h3 : (strs (K' ++ List.replicate (K.length - K'.length) ByteArray.empty)).take K'.length = strs K' := by
      unfold strs
      rw [List.map_append, List.take_left' (by simp)]
    rw [h3] at h2
    exact h2
end Go.Proofs.YtehpafebpgndeaaGreatDoor
