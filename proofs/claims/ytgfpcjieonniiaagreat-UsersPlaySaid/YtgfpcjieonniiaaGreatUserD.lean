/-
  Users of a law's own: New, Fail, Good, Locked, Fails, Secret in these words; alive answers true.
-/
import Derived.Test.YtgfpcjieonniiaaGreatUserC
import Derived.Test.YtgfpcjieonniiaaGreatFill
import Derived.Deep.RegionWith
namespace Go.Proofs.YtgfpcjieonniiaaGreat
set_option linter.unusedVariables false
set_option linter.unusedSimpArgs false
set_option linter.unnecessarySimpa false
open Go.RowKit Go.Maps

/-- Users of the call's own: all their blocks are new. -/
def OwnU (w w' : World) (b m : Nat) (L : List Usr) : Prop := UsersAt w' b m L ∧ Kept (fun _ => False) w w' ∧ ∀ k, usersF b m L k → w.heap.size ≤ k

theorem OwnU.kept {w w1 w2 : World} {b m : Nat} {L : List Usr} (h : OwnU w w1 b m L) (hk : Kept (fun _ => False) w1 w2) : OwnU w w2 b m L :=
  ⟨h.1.kept hk (fun _ _ h => h), h.2.1.trans hk (fun _ _ h => h), h.2.2⟩

theorem own_of_new {w w1 w2 : World} {l : List (ByteArray × ByteArray)} {b m : Nat} {L : List Usr} (hk : Kept (fun _ => False) w w1) (hk2 : Kept (fun _ => False) w1 w2) (hu : UsersAt w2 b m L) (hm : Made w1.heap.size l L) (hb : w1.heap.size ≤ b) (hmm : w1.heap.size ≤ m) : OwnU w w2 b m L := by
  have hs := hk.size
  refine ⟨hu, hk.trans hk2 (fun _ _ h => h), fun k hk => ?_⟩
  rcases hk with rfl | rfl | ⟨x, hx, rfl⟩
  · omega
  · omega
  · have := (hm.2 x hx).2.2.2; omega

theorem turn_F {b m : Nat} {L : List Usr} {x x' : Usr} (hx : x ∈ L) (hb : x'.blk = x.blk) {k : Nat} (h : usersF b m (turn L x') k) : usersF b m L k := by
  rcases h with h | h | ⟨y, hy, h⟩
  · exact .inl h
  · exact .inr (.inl h)
  · simp only [turn, List.mem_map] at hy
    obtain ⟨z, hz, rfl⟩ := hy
    refine .inr (.inr ⟨z, hz, ?_⟩)
    split at h
    · rename_i e; rw [e]; exact h
    · exact h

theorem own_turn {w w1 w2 : World} {b m : Nat} {L : List Usr} {x x' : Usr} (h : OwnU w w1 b m L) (hx : x ∈ L) (hb : x'.blk = x.blk) (hf : Failed w1 w2 b m L x x') : OwnU w w2 b m (turn L x') :=
  ⟨hf.1, h.2.1.trans hf.2 (fun k hk hs => by have := h.2.2 x.blk (.inr (.inr ⟨x, hx, rfl⟩)); omega), fun k hk => h.2.2 k (turn_F hx hb hk)⟩

theorem failed_blk (x : Usr) (now : Int) : (failed x now).1.blk = x.blk := by unfold failed; split <;> rfl

theorem own_fail {w w1 : World} {b m : Nat} {L L' : List Usr} {n : ByteArray} {x x' : Usr} {now : Int} {r : Bool} (h : OwnU w w1 b m L) (hn : n.size ≤ maxLen) (hf : findU L n = some x) (f0 : 0 ≤ x.fails) (f1 : x.fails < 3) (n0 : -9223372036854775808 ≤ now) (n1 : now ≤ 9223372036854775807)
    (hr : failed x now = (x', r)) (hL : turn L x' = L') :
    Calls Tryz.prog 15 #[.pointer (some ⟨b, 0, none⟩), .string n, .int .i64 now] w1 fun e w' => e = .returned (.bool r) ∧ OwnU w w' b m L' := by
  have hb := failed_blk x now
  refine (fail_any b m L n x now w1 h.1 hn hf f0 f1 n0 n1).mono ?_
  rintro e w' ⟨rfl, hF⟩
  rw [hr] at hF hb ⊢
  exact ⟨rfl, hL ▸ own_turn h (findU_some hf).1 hb hF⟩
theorem own_fail_none {w w1 : World} {b m : Nat} {L : List Usr} {n : ByteArray} {now : Int} (h : OwnU w w1 b m L) (hn : n.size ≤ maxLen) (hf : findU L n = none) :
    Calls Tryz.prog 15 #[.pointer (some ⟨b, 0, none⟩), .string n, .int .i64 now] w1 fun e w' => e = .returned (.bool false) ∧ w1 = w' := fail_none b m L n now w1 h.1 hn hf
theorem own_good {w w1 : World} {b m : Nat} {L L' : List Usr} {n : ByteArray} {x : Usr} (h : OwnU w w1 b m L) (hn : n.size ≤ maxLen) (hf : findU L n = some x) (hL : turn L { x with fails := 0 } = L') :
    Calls Tryz.prog 17 #[.pointer (some ⟨b, 0, none⟩), .string n] w1 fun e w' => e = .returned (.tuple #[]) ∧ OwnU w w' b m L' := by
  refine (good_any b m L n x w1 h.1 hn hf).mono ?_
  rintro e w' ⟨rfl, hF⟩
  exact ⟨rfl, hL ▸ own_turn h (findU_some hf).1 (x' := { x with fails := 0 }) rfl hF⟩
theorem own_good_none {w w1 : World} {b m : Nat} {L : List Usr} {n : ByteArray} (h : OwnU w w1 b m L) (hn : n.size ≤ maxLen) (hf : findU L n = none) :
    Calls Tryz.prog 17 #[.pointer (some ⟨b, 0, none⟩), .string n] w1 fun e w' => e = .returned (.tuple #[]) ∧ w1 = w' := good_none b m L n w1 h.1 hn hf
theorem own_locked {w w1 : World} {b m : Nat} {L : List Usr} {n : ByteArray} {now : Int} {r : Bool} (h : OwnU w w1 b m L) (hn : n.size ≤ maxLen) (hr : lockedB (findU L n) now = r) :
    Calls Tryz.prog 19 #[.pointer (some ⟨b, 0, none⟩), .string n, .int .i64 now] w1 fun e w' => e = .returned (.bool r) ∧ w1 = w' := hr ▸ locked_any b m L n now w1 h.1 hn
theorem own_fails {w w1 : World} {b m : Nat} {L : List Usr} {n : ByteArray} {r : Int} (h : OwnU w w1 b m L) (hn : n.size ≤ maxLen) (hr : failsOf (findU L n) = r) :
    Calls Tryz.prog 21 #[.pointer (some ⟨b, 0, none⟩), .string n] w1 fun e w' => e = .returned (.int .i64 r) ∧ w1 = w' := hr ▸ fails_any b m L n w1 h.1 hn
theorem own_secret {w w1 : World} {b m : Nat} {L : List Usr} {n : ByteArray} {r : Value} (h : OwnU w w1 b m L) (hn : n.size ≤ maxLen) (hr : secretOf (findU L n) = r) :
    Calls Tryz.prog 13 #[.pointer (some ⟨b, 0, none⟩), .string n] w1 fun e w' => e = .returned r ∧ w1 = w' := hr ▸ secret_any b m L n w1 h.1 hn

def ann : ByteArray := ⟨#[97, 110, 110]⟩
def bob : ByteArray := ⟨#[98, 111, 98]⟩
theorem ann_size : ann.size ≤ maxLen := by unfold maxLen; decide
theorem bob_size : bob.size ≤ maxLen := by unfold maxLen; decide

/-- One user, made by New out of a slice of one. -/
theorem new_one {w w1 : World} (nm sec : ByteArray) (g : Nat) (hk : Kept (fun _ => False) w w1) (hc : w1.heap[g]? = some (.cells #[.string nm, .string sec] 32 (0, 0))) (hv : rightB nm sec = true) :
    Calls Tryz.prog 6 #[.slice (some ⟨g, 0, none⟩) 1 1] w1 fun e w' => ∃ b m k, e = .returned (.tuple #[.pointer (some ⟨b, 0, none⟩), .int .i64 0]) ∧ OwnU w w' b m [⟨nm, k, sec, 0, false, 0⟩] := by
  have hrd : Rd w1 2 [(nm, sec)].length (.slice (some ⟨g, 0, none⟩) 1 1) ([(nm, sec)].flatMap userCells) := rd_block (vs := [.string nm, .string sec]) hc rfl
  refine (new_any (.slice (some ⟨g, 0, none⟩) 1 1) [(nm, sec)] w1 hrd).mono ?_
  rintro e w' ⟨hk2, h⟩
  have hvb : validB [(nm, sec)] = true := by simp [validB, hv]
  rw [hvb] at h
  obtain ⟨b, m, L, rfl, hu, hm, hb, hmm⟩ := h
  have hown := own_of_new hk hk2 hu hm hb hmm
  obtain ⟨h1, h2⟩ := hm
  match L, h1, h2 with
  | [x], h1, h2 =>
    obtain ⟨a1, a2, a3, _⟩ := h2 x (by simp)
    obtain ⟨xn, xb, xs, xf, xl, xt⟩ := x
    simp at h1 a1 a2 a3
    obtain ⟨rfl, rfl⟩ := h1
    subst a1 a2 a3
    exact ⟨b, m, xb, rfl, hown⟩

theorem right_ann {sec : ByteArray} (h : sec.size = 32) : rightB ann sec = true := by
  unfold rightB
  rw [decide_eq_true h]
  decide

set_option maxRecDepth 100000 in
set_option maxHeartbeats 1600000 in
theorem alive_any (w : World) : Calls Tryz.prog 4 #[] w fun e w' => e = .returned (.bool true) ∧ Kept (fun _ => False) w w' := by
  obtain ⟨s, hs, hsz⟩ : ∃ s, s = fillB ⟨#[115]⟩ 32 ∧ s.size = 32 := ⟨_, rfl, fillB_size _ _⟩
  have hfill := fun W => fill_any ⟨#[115]⟩ 32 W (by decide) (by decide)
  rw [← hs] at hfill
  have HF := Lib.hid hfill
  have HZ := Lib.hid hsz
  clear hs hfill hsz
  go_enter Tryz.func4, Tryz.ntmps4
  go_wp2_with fail
  refine (HF.out _).mono ?_
  rintro e w1 ⟨rfl, rfl⟩
  go_wp2_with fail
  have hnew := new_one ann s w.heap.size ((Kept.refl (fun _ => False) w).alloc (.cells #[.string ann, .string s] 32)) (heap_alloc_new w _) (right_ann HZ.out)
  refine hnew.mono ?_
  clear hnew
  rintro e w2 ⟨b, m, k, rfl, ho0⟩
  go_wp2_with fail
  refine (own_fail (n := ann) (r := false) (x := ⟨ann, k, s, 0, false, 0⟩) (x' := ⟨ann, k, s, 1, false, 0⟩) (L' := [⟨ann, k, s, 1, false, 0⟩]) ho0 ann_size (by rfl) (by simp) (by simp) (by omega) (by omega) rfl (by simp [turn])).mono ?_
  rintro e w3 ⟨rfl, ho1⟩
  clear ho0
  go_wp2_with fail
  refine (own_fail (n := ann) (r := false) (x := ⟨ann, k, s, 1, false, 0⟩) (x' := ⟨ann, k, s, 2, false, 0⟩) (L' := [⟨ann, k, s, 2, false, 0⟩]) ho1 ann_size (by rfl) (by simp) (by simp) (by omega) (by omega) rfl (by simp [turn])).mono ?_
  rintro e w4 ⟨rfl, ho2⟩
  clear ho1
  go_wp2_with fail
  refine (own_fail (n := ann) (r := true) (x := ⟨ann, k, s, 2, false, 0⟩) (x' := ⟨ann, k, s, 0, true, 25⟩) (L' := [⟨ann, k, s, 0, true, 25⟩]) ho2 ann_size (by rfl) (by simp) (by simp) (by omega) (by omega) rfl (by simp [turn])).mono ?_
  rintro e w5 ⟨rfl, ho3⟩
  clear ho2
  go_wp2_with fail
  refine (own_secret (n := ann) (r := .tuple #[.string s, .bool true]) ho3 ann_size (by rfl)).mono ?_
  rintro e w6 ⟨rfl, rfl⟩
  go_wp2_with fail
  refine (own_locked (n := ann) (now := 25) (r := true) ho3 ann_size (by rfl)).mono ?_
  rintro e w6 ⟨rfl, rfl⟩
  go_wp2_with fail
  refine (own_locked (n := ann) (now := 26) (r := false) ho3 ann_size (by rfl)).mono ?_
  rintro e w6 ⟨rfl, rfl⟩
  go_wp2_with fail
  refine (own_locked (n := bob) (now := 5) (r := false) ho3 bob_size (by rfl)).mono ?_
  rintro e w6 ⟨rfl, rfl⟩
  go_wp2_with fail
  go_ret
  exact ⟨rfl, ho3.2.1⟩
end Go.Proofs.YtgfpcjieonniiaaGreat
