/-
  The Book's notes: marks.
-/
import Derived.Test.YthchacmkeppjcaaRingB
import Derived.Deep.LoopGhost
namespace Go.Proofs.Ythchacmkeppjcaa
set_option linter.unusedVariables false
set_option linter.unusedSimpArgs false
set_option linter.unnecessarySimpa false
open Go.RowKit

def markN (i k : Nat) : Note := opNote (-1000 * (i : Int) - (k : Int) - 1)
def markL (i fr n : Nat) : List Note := (List.range n).map fun j => markN i (fr + j)
theorem markL_succ (i fr n : Nat) : markL i fr (n + 1) = markL i fr n ++ [markN i (fr + n)] := by simp [markL, List.range_succ]
theorem markL_length (i fr n : Nat) : (markL i fr n).length = n := by simp [markL]
theorem Fresh.nil {w w' : World} {E : TypeId} {size : Nat} (h : Kept (fun _ => False) w w') : Fresh w w' E size 0 (.slice none 0 0) [] := ⟨Sl.nil _ _ _, h, .inl ⟨rfl, rfl⟩⟩
theorem Fresh.push {w w1 w2 : World} {E : TypeId} {size n g off cap : Nat} {v : Value} {xs ys : List Value} (h : Fresh w w1 E size n v xs)
    (h1 : Sl w2 E size (n + 1) (.slice (some ⟨g, off, none⟩) (n + 1) cap) ys) (h2 : Kept (fun i => v.ownBlock = some i) w1 w2) (h3 : v.ownBlock = some g ∨ w1.heap.size ≤ g) :
    Fresh w w2 E size (n + 1) (.slice (some ⟨g, off, none⟩) (n + 1) cap) ys := by
  have hown : ∀ i, v.ownBlock = some i → w.heap.size ≤ i := by
    intro i hi
    rcases h.2.2 with ⟨rfl, _⟩ | ⟨g', off', cap', rfl, hg⟩
    · cases hi
    · simp [Value.ownBlock] at hi
      omega
  refine ⟨h1, h.2.1.trans h2 (fun i hi e => by have := hown i e; omega), .inr ⟨g, off, cap, rfl, ?_⟩⟩
  exact h3.elim (hown g) (fun e => Nat.le_trans h.2.1.size e)

set_option maxRecDepth 100000 in
set_option maxHeartbeats 1600000 in
theorem markNotes_any (i fr n : Nat) (w : World) (hi : i ≤ 1000) (hf : fr ≤ 100000) (hn : n ≤ 100000) :
    Calls Try.prog 60 #[.int .i64 i, .int .i64 fr, .int .i64 n] w (FreshRet w 38 4 n (flat (markL i fr n))) := by
  obtain ⟨i0, hi0, hz0, hz1, hz2⟩ := info_parts note_info
  go_enter Try.func60, Try.ntmps60
  go_wp2_with fail
  go_loopg [7, 8] n (fun gk v k wr => ∃ j : Nat, j + gk = n ∧ k = .int .i64 ((fr + j : Nat) : Int) ∧ Fresh w wr 38 4 j v (flat (markL i fr j)))
  case atStart => exact ⟨0, by omega, rfl, Fresh.nil (Kept.refl _ _)⟩
  case round =>
    obtain ⟨j, hj, rfl, hfr⟩ := hrel
    by_cases hlt : j < n
    · have NX := Lib.hid (markL_succ i fr j)
      have hsl := hfr.1
      obtain ⟨aov, cav, rfl, _⟩ := (Rd.of_sl hsl).shape
      have APP := Lib.hid (fun (W w5 : World) (g off cap : Nat) (hk : Kept (fun _ => False) wr W) h1 h2 h3 => Fresh.push (g := g) (off := off) (cap := cap) (w2 := w5) (ys := flat (markL i fr j) ++ (markN i (fr + j)).cells) (⟨hsl.kept hk (fun _ _ h => h), hfr.2.1.trans hk (fun _ _ h => h), hfr.2.2⟩ : Fresh w W 38 4 j (.slice aov j cav) (flat (markL i fr j))) h1 h2 h3)
      have hone : ∀ u ∈ [Value.string ⟨#[]⟩, .int .i64 (-1000 * (i : Int) - ((fr + j : Nat) : Int) - 1), .string ⟨#[]⟩, .bool false], u.oneCell' = true := by simp [Value.oneCell']
      have b1 : j + 1 ≤ maxLen := by unfold maxLen; omega
      have b2 : (j + 1) * 48 ≤ 140737488355328 := by omega
      clear hfr
      go_wp2_with (at_builtin; refine wpList_append_sl _ rfl (.tmp 17) (.tmp 24) 22 rfl 38 i0 _ 4 48 Try.underlying22 hi0 hz0 hz1 hz2 rfl (by decide) _ j (flat (markL i fr j)) rfl (hsl.kept ((Kept.refl (fun _ => False) wr).alloc _) (fun _ _ h => h)) ⟨wr.heap.size, 0, none⟩ 1 1 [.string ⟨#[]⟩, .int .i64 (-1000 * (i : Int) - ((fr + j : Nat) : Int) - 1), .string ⟨#[]⟩, .bool false] rfl rfl (cells_new _ _ _ _) hone (by omega) b1 b2 ?_; intro g4 off4 cap w5 h1 h2 h3; have FIN := Lib.hid (APP.out _ w5 g4 off4 cap ((Kept.refl (fun _ => False) wr).alloc _) h1 h2 h3); clear h1 h2 h3)
      go_roundg (gk - 1)
      case measure => omega
      case rel => exact ⟨j + 1, by omega, by go_num, by rw [NX.out, flat_append]; simpa [flat] using FIN.out⟩
    · obtain rfl : n = j := by omega
      go_wp2_with fail
      go_ret
      exact ⟨_, rfl, hfr⟩
end Go.Proofs.Ythchacmkeppjcaa
