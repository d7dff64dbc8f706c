/-
  Tidy: users out of raw ones.
-/
import Derived.Test.YtgfpcjieonniiaaGreatRefUsersD
import Derived.Test.YtgfpcjieonniiaaGreatFill
import Derived.Deep.RegionLaw
import Derived.Deep.LoopGhost
namespace Go.Proofs.YtgfpcjieonniiaaGreat
set_option linter.unusedVariables false
set_option linter.unusedSimpArgs false
set_option linter.unnecessarySimpa false
open Go.RowKit
set_option maxRecDepth 100000

/-- v: a slice of one's own with these users; nothing that was there has turned. -/
def Usrs (w w' : World) (v : Value) (l : List (ByteArray × ByteArray)) : Prop := Sl w' 32 2 l.length v (l.flatMap userCells) ∧ Kept (fun _ => False) w w' ∧ ∀ k, v.ownBlock = some k → w.heap.size ≤ k
theorem Usrs.nil {w w' : World} (h : Kept (fun _ => False) w w') : Usrs w w' (.slice none 0 0) [] := ⟨Sl.nil _ _ _, h, fun k hk => by cases hk⟩
theorem Usrs.kept {w w1 w2 : World} {v : Value} {l : List (ByteArray × ByteArray)} (h : Usrs w w1 v l) (hk : Kept (fun _ => False) w1 w2) : Usrs w w2 v l := ⟨h.1.kept hk (fun _ _ h => h), h.2.1.trans hk (fun _ _ h => h), h.2.2⟩
theorem Usrs.push {w w1 w2 : World} {v : Value} {l : List (ByteArray × ByteArray)} (h : Usrs w w1 v l) {g off cap : Nat} {a b : ByteArray}
    (h1 : Sl w2 32 2 (l.length + 1) (.slice (some ⟨g, off, none⟩) (l.length + 1) cap) (l.flatMap userCells ++ [.string a, .string b])) (h2 : Kept (fun i => v.ownBlock = some i) w1 w2) (h3 : v.ownBlock = some g ∨ w1.heap.size ≤ g) :
    Usrs w w2 (.slice (some ⟨g, off, none⟩) (l.length + 1) cap) (l ++ [(a, b)]) := by
  refine ⟨?_, h.2.1.trans h2 (fun i hi e => by have := h.2.2 i e; omega), fun i hi => ?_⟩
  · rw [List.length_append, List.flatMap_append]
    simpa [userCells] using h1
  · simp [Value.ownBlock] at hi
    subst hi
    exact h3.elim (h.2.2 g) (fun e => Nat.le_trans h.2.1.size e)

theorem usr_info : (Tryz.prog.info? 32).map (fun i => (i.zero, i.size, i.bytes)) = some (some (.agg #[.string ByteArray.empty, .string ByteArray.empty]), 2, 32) := by kernel_rfl

theorem fill_all (s : ByteArray) (w : World) (hs : s.size ≤ maxLen) :
    Calls Tryz.prog 23 #[.string s, .int .i64 32] w fun e w' => e = .returned (.string (fillB s 32)) ∧ w = w' := by
  by_cases c : s.size ≤ 140737488351232
  · exact fill_any s 32 w c (by omega)
  · have hfin : fillB s 32 = s.extract 0 32 := by
      unfold fillB
      rw [show 32 - s.size = 0 by omega]
      rfl
    rw [hfin]
    have h1 : s.size ≤ 9223372036854775807 := hs
    have h2 : 32 ≤ s.size := by omega
    clear hfin c hs
    go_enter Tryz.func23, Tryz.ntmps23
    go_wp2_with fail
    go_loopg [0] 0 (fun g x wr => g = 0 ∧ x = .string s ∧ w = wr)
    case atStart => exact ⟨rfl, rfl, rfl⟩
    case round =>
      obtain ⟨rfl, rfl, rfl⟩ := hrel
      go_wp2_with fail
      go_ret
      exact ⟨by first | rfl | simp, rfl⟩

/-- What Tidy makes. -/
def tidyL (l : List (ByteArray × ByteArray)) : List (ByteArray × ByteArray) := l.map fun x => (x.1, fillB x.2 32)
theorem tidyL_length (l : List (ByteArray × ByteArray)) : (tidyL l).length = l.length := by simp [tidyL]
theorem tidyL_succ (l : List (ByteArray × ByteArray)) (i : Nat) (hi : i < l.length) : tidyL (l.take (i + 1)) = tidyL (l.take i) ++ [((l[i]'hi).1, fillB (l[i]'hi).2 32)] := by
  rw [List.take_succ_eq_append_getElem hi]
  unfold tidyL
  rw [List.map_append]
  rfl

set_option maxHeartbeats 4000000 in
theorem tidy_any (v : Value) (l : List (ByteArray × ByteArray)) (w : World) (hl : Rd w 2 l.length v (l.flatMap userCells)) (hn : l.length ≤ 1000) (hs : ∀ x ∈ l, x.1.size ≤ maxLen ∧ x.2.size ≤ maxLen) :
    Calls Tryz.prog 5 #[v] w fun e w' => ∃ u, e = .returned u ∧ Usrs w w' u (tidyL l) := by
  obtain ⟨i0, hi0, hz0, hz1, hz2⟩ := info_parts usr_info
  obtain ⟨ao, ca, rfl, hca⟩ := hl.shape
  have HR := Lib.hid (fun (W : World) (hk : Kept (fun _ => False) w W) i hi => rd_user (hl.kept hk (fun _ _ h => h)) rfl i hi)
  have HS := Lib.hid hs
  clear hl hs
  obtain ⟨N, hN⟩ : ∃ N, N = l.length := ⟨_, rfl⟩
  rw [← hN] at hca hn ⊢
  have HN := Lib.hid hN
  clear hN
  go_enter Tryz.func5, Tryz.ntmps5
  go_wp2_with fail
  go_loopg [3, 4] N (fun gk v k wr => ∃ i : Nat, i + gk = N ∧ k = .int .i64 (i : Int) ∧ Usrs w wr v (tidyL (l.take i)))
  case atStart => exact ⟨0, by omega, rfl, Usrs.nil (Kept.refl _ _)⟩
  case round =>
    obtain ⟨i, hi, rfl, hj⟩ := hrel
    by_cases hlt : i < N
    · have hil : i < l.length := HN.out ▸ hlt
      obtain ⟨g, off, rfl, x0, x1⟩ := HR.out wr hj.2.1 i hil
      have hsz := HS.out _ (List.getElem_mem hil)
      have NX := Lib.hid (tidyL_succ l i hil)
      have FILL := Lib.hid (fun W => fill_all (l[i]'hil).2 W hsz.2)
      generalize l[i]'hil = x at *
      generalize fillB x.2 32 = sc at *
      obtain ⟨nm, raw⟩ := x
      simp only at x0 x1 NX FILL
      have hul : (tidyL (l.take i)).length = i := by rw [tidyL_length, List.length_take]; omega
      have hsl := hj.1
      obtain ⟨aov, cav, rfl, _⟩ := (Rd.of_sl hsl).shape
      have APP := Lib.hid (fun (W w5 : World) (g off cap : Nat) (hk : Kept (fun _ => False) wr W) h1 h2 h3 => (hj.kept hk).push (g := g) (off := off) (cap := cap) (a := nm) (b := sc) (w2 := w5) h1 h2 h3)
      have hone : ∀ u ∈ [Value.string nm, Value.string sc], u.oneCell' = true := by simp [Value.oneCell']
      clear hj hsz
      rw [hul] at hsl APP ⊢
      generalize tidyL (l.take i) = ul at *
      have b1 : i + 1 ≤ maxLen := by unfold maxLen; omega
      have b2 : (i + 1) * 32 ≤ 140737488355328 := by omega
      have hkW : Kept (fun _ => False) wr (wr.alloc (.cells #[.string nm, .string sc] 32)).drew := ((Kept.refl (fun _ => False) wr).alloc _).drew
      have HSL := Lib.hid (hsl.kept hkW (fun _ _ h => h))
      have APP2 := Lib.hid (fun (w5 : World) (g off cap : Nat) => APP.out _ w5 g off cap hkW)
      have HCN := Lib.hid (show ∀ (j : Nat) (u : Value), [Value.string nm, Value.string sc][j]? = some u → ((wr.alloc (.cells #[.string nm, .string sc] 32)).drew).cell? ((⟨wr.heap.size, 0, none⟩ : Addr).add j) = some u from fun j u hu => cells_new wr [.string nm, .string sc] 32 (0, 0) j u hu)
      clear hkW hsl APP hul
      go_wp2_with fail
      go_region_law (first
        | (refine step_append_sl _ rfl (.tmp 11) (.tmp 24) 22 rfl 32 i0 _ 2 32 Tryz.underlying22 hi0 hz0 hz1 hz2 rfl (by decide) (.slice aov i cav) i (ul.flatMap userCells) (by kernel_rfl) HSL.out ⟨wr.heap.size, 0, none⟩ 1 1 [.string nm, .string sc] (by kernel_rfl) rfl HCN.out hone (by omega) b1 b2 ?_; intro g4 off4 cap w5 h1 h2 h3; have FIN := Lib.hid (APP2.out w5 g4 off4 cap h1 h2 h3); clear h1 h2 h3)
        | (go_simp; go_at_call 23; refine (FILL.out _).mono ?_; rintro e w2 ⟨rfl, rfl⟩))
      all_goals
        go_wp2_with fail
        go_roundg (gk - 1)
        case measure => omega
        case rel => exact ⟨i + 1, by omega, by go_num, by rw [NX.out]; exact FIN.out⟩
    · obtain rfl : i = N := by omega
      have e : l.take i = l := by rw [HN.out, List.take_of_length_le (Nat.le_refl _)]
      rw [e] at hj
      have hul : (tidyL l).length = i := by rw [tidyL_length, HN.out]
      have HJ := Lib.hid hj
      obtain ⟨aov, cav, rfl, _⟩ := (Rd.of_sl hj.1).shape
      clear hj e
      go_wp2_with fail
      go_ret
      exact ⟨_, rfl, HJ.out⟩
end Go.Proofs.YtgfpcjieonniiaaGreat
