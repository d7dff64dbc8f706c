/-
  The law WindowPlays: the walk.
-/
import Derived.Test.YtkcidcfjoaokoaaWinIv
import Derived.Test.YtkcidcfjoaokoaaBkHasInts
import Derived.Test.YtkcidcfjoaokoaaTri
namespace Go.Proofs.Ytkcidcfjoaokoaa
set_option linter.unusedVariables false
set_option linter.unusedSimpArgs false
set_option linter.unnecessarySimpa false
open Go.RowKit Go.Maps
set_option maxRecDepth 100000

/-- No Window. -/
theorem may_nil (x : Int) (w : World) : Calls Try.prog 10 #[.pointer none, .int .i64 x] w fun e w' => e = .returned (.bool false) ∧ w = w' := by
  go_enter Try.func10, Try.ntmps10
  go_wp2_with fail
  go_ret
  exact ⟨rfl, rfl⟩
theorem take_nil (x : Int) (w : World) : Calls Try.prog 9 #[.pointer none, .int .i64 x] w fun e w' => e = .returned (.bool false) ∧ w = w' := by
  go_enter Try.func9, Try.ntmps9
  go_wp2_with fail
  refine (may_nil x w).mono ?_
  rintro e w1 ⟨rfl, rfl⟩
  go_wp2_with fail
  go_ret
  exact ⟨rfl, rfl⟩
theorem next_nil (w : World) : Calls Try.prog 13 #[.pointer none] w fun e w' => e = .returned (.int .i64 0) ∧ w = w' := by
  go_enter Try.func13, Try.ntmps13
  go_wp2_with fail
  go_ret
  exact ⟨rfl, rfl⟩
theorem ahead_nil (w : World) : Calls Try.prog 11 #[.pointer none] w fun e w' => e = .returned (.slice none 0 0) ∧ w = w' := by
  go_enter Try.func11, Try.ntmps11
  go_wp2_with fail
  go_ret
  exact ⟨rfl, rfl⟩

/-- 'had[y]'. -/
theorem had_look {w : World} {hb mc : Nat} {Had : Int → Bool} (h : Mp w Try.prog 3 hb mc (ofSet Had)) (y : Int) (h0 : -9223372036854775808 ≤ y) (h1 : y ≤ 9223372036854775807) :
    (Instr.lookup 30 (.map (some hb)) (.int .i64 y) false).run Try.prog w = .ok (.bool (Had y)) w := by
  have hkey := keyOf_int_mk Try.underlying3 (show (Lit.int .i64 y).wf = true from by simp only [Lit.wf, Bool.and_eq_true, decide_eq_true_eq]; exact ⟨h0, h1⟩)
  cases hs : Had y with
  | true => exact h.look ikey Try.underlying30 (zero_bool w) hkey (by simp [ofSet, hs])
  | false => exact h.look_none ikey Try.underlying30 (zero_bool w) hkey (by simp [ofSet, hs])

/-- The Window, the numbers had, the Book: of the call's own, sharing no block. -/
structure PlayW (w wr : World) (b hb kb : Nat) (i : Nat) (next : Int) (mo : Option Nat) (cnt : Nat) (S Had : Int → Bool) (mc : Nat) (F : Nat → Prop) (Ls : List (List Int)) : Prop where
  win : WinSt wr b next mo cnt S
  map : Mp wr Try.prog 3 hb mc (ofSet Had)
  book : BookHas wr kb F Ls
  tri : Tri w wr (winF b mo) (fun k => k = hb) F
  eqv : ∀ y, S y = (Had y && decide (next ≤ y))
  nx : Had next = false
  n1 : next ≤ 64 * i
  c1 : cnt ≤ i
  m1 : mc ≤ i

section
variable {w wr w2 : World} {b hb kb i : Nat} {next : Int} {mo : Option Nat} {cnt : Nat} {S Had : Int → Bool} {mc : Nat} {F : Nat → Prop} {Ls : List (List Int)}
theorem PlayW.keep (h : PlayW w wr b hb kb i next mo cnt S Had mc F Ls) (hk : Kept (fun _ => False) wr w2) : PlayW w w2 b hb kb i next mo cnt S Had mc F Ls :=
  ⟨h.win.kept hk (fun _ _ h => h), h.map.kept hk (fun h => h), h.book.kept hk (fun _ _ h => h), h.tri.keep hk, h.eqv, h.nx, h.n1, h.c1, h.m1⟩
theorem PlayW.succ (h : PlayW w wr b hb kb i next mo cnt S Had mc F Ls) : PlayW w wr b hb kb (i + 1) next mo cnt S Had mc F Ls :=
  ⟨h.win, h.map, h.book, h.tri, h.eqv, h.nx, by have := h.n1; omega, by have := h.c1; omega, by have := h.m1; omega⟩
theorem PlayW.may (h : PlayW w wr b hb kb i next mo cnt S Had mc F Ls) (x : Int) : mayB next S x = (decide (next ≤ x) && decide (x < next + 64) && !Had x) := by
  unfold mayB
  rw [h.eqv x]
  by_cases c : next ≤ x
  · have e : decide (x - next < 64) = decide (x < next + 64) := by rw [decide_eq_decide]; omega
    rw [e, decide_eq_true c]
    simp
  · rw [decide_eq_false c]
    simp
theorem PlayW.ahead (h : PlayW w wr b hb kb i next mo cnt S Had mc F Ls) : aheadL next S = aheadL next Had := by
  unfold aheadL
  apply List.filter_congr
  intro y hy
  obtain ⟨j, _, rfl⟩ := List.mem_map.1 hy
  rw [h.eqv]
  rw [decide_eq_true (by omega), Bool.and_true]
/-- Behind a Take of a number that may not be taken. -/
theorem PlayW.no (h : PlayW w wr b hb kb i next mo cnt S Had mc F Ls) {x : Int} (hm : mayB next S x = false) (ht : TakeRes wr w2 b next mo cnt S x) : ∃ mo' cnt', PlayW w w2 b hb kb (i + 1) next mo' cnt' S Had mc F Ls := by
  obtain ⟨n', mo', cnt', S', g1, g2, g3, g4, g5, g6, g7, _⟩ := ht
  obtain ⟨rfl, rfl⟩ := g7 hm
  refine ⟨mo', cnt', g1, h.map.kept g5 (fun e => h.tri.ab _ e rfl), h.book.kept g5 (fun k hk e => h.tri.ac k e hk), h.tri.turn1 g5 g6 (fun k hk => g1.lt hk), h.eqv, h.nx, by have := h.n1; omega, by have := h.c1; omega, by have := h.m1; omega⟩
/-- Behind a Take of one that may, and the note that it was had. -/
theorem PlayW.yes (h : PlayW w wr b hb kb i next mo cnt S Had mc F Ls) {x : Int} (hm : mayB next S x = true) (ht : TakeRes wr w2 b next mo cnt S x) :
    ∃ n' mo' cnt' S', WinSt w2 b n' mo' cnt' S' ∧ Mp w2 Try.prog 3 hb mc (ofSet Had) ∧ next ≤ n' ∧ n' ≤ next + 64 ∧ (∀ y, next ≤ y → y < n' → plus Had x y = true) ∧ Kept (fun _ => False) w w2 ∧
      ∀ w3 mc', Mp w3 Try.prog 3 hb mc' (ofSet (plus Had x)) → mc' ≤ mc + 1 → Kept (fun k => k = hb) w2 w3 → PlayW w w3 b hb kb (i + 1) n' mo' cnt' S' (plus Had x) mc' F Ls := by
  obtain ⟨n', mo', cnt', S', g1, g2, g3, g4, g5, g6, _, g8⟩ := ht
  obtain ⟨e1, e2, e3⟩ := g8 hm
  have hp : ∀ y, next ≤ y → plus S x y = plus Had x y := fun y hy => by
    unfold plus
    rw [h.eqv y, decide_eq_true hy, Bool.and_true]
  have ht2 := h.tri.turn1 g5 g6 (fun k hk => g1.lt hk)
  refine ⟨n', mo', cnt', S', g1, h.map.kept g5 (fun e => h.tri.ab _ e rfl), g2, g3, fun y h1 h2 => by rw [← hp y h1]; exact e2 y h1 h2, ht2.kept, fun w3 mc' k1 k2 k3 => ?_⟩
  have hb2 : BookHas w2 kb F Ls := h.book.kept g5 (fun k hk e => h.tri.ac k e hk)
  refine ⟨g1.kept k3 (fun k hk e => ht2.ab k hk e), k1, hb2.kept k3 (fun k hk e => ht2.bc k e hk), ht2.turn2 k3 (fun k hk => .inl hk) (fun k hk => ?_), fun y => ?_, ?_, by have := h.n1; omega, by have := h.c1; omega, by have := h.m1; omega⟩
  · rw [hk]; exact k1.lt
  · rw [e1]
    unfold from_
    by_cases c : n' ≤ y
    · rw [hp y (by omega)]
    · rw [decide_eq_false c]; simp
  · rw [← hp n' g2]; exact e3
/-- One more list in the Book. -/
theorem PlayW.one {w5 w6 : World} (h : PlayW w wr b hb kb i next mo cnt S Had mc F Ls) (hk : Kept (fun _ => False) wr w5) {u : Value} {L : List Int} (hu : ∀ k, u.ownBlock = some k → wr.heap.size ≤ k) {F' : Nat → Prop} (h1 : BookHas w6 kb F' (Ls ++ [L])) (h2 : Kept F w5 w6) (h3 : ∀ k, F' k → F k ∨ u.ownBlock = some k ∨ w5.heap.size ≤ k) :
    PlayW w w6 b hb kb i next mo cnt S Had mc F' (Ls ++ [L]) := by
  have hz := hk.size
  have hkk : Kept F wr w6 := (hk.mono (fun _ _ h => h.elim)).trans h2 (fun _ _ h => h)
  refine ⟨h.win.kept hkk (fun k hk e => h.tri.ac k hk e), h.map.kept hkk (fun e => h.tri.bc _ rfl e), h1, h.tri.turn3 hkk (fun k hk => ?_) (fun k hk => h1.lt k hk), h.eqv, h.nx, h.n1, h.c1, h.m1⟩
  rcases h3 k hk with e | e | e
  · exact .inl e
  · exact .inr (hu k e)
  · exact .inr (by omega)
end

/-- The start. -/
theorem PlayW.start {w w1 w2 : World} (hk : Kept (fun _ => False) w w1) (h2 : w2 = ((w1.alloc (.cells #[.int .i64 0, .map none] 32)).alloc (.map #[] 0)).alloc (.cells (bookArr (.slice none 0 0) (.slice none 0 0)) 44)) :
    PlayW w w2 w1.heap.size (w1.heap.size + 1) (w1.heap.size + 1 + 1) 0 0 none 0 (fun _ => false) (fun _ => false) 0 (fun k => k = w1.heap.size + 1 + 1) [] := by
  subst h2
  have hz := hk.size
  have w2 : WinSt (w1.alloc (.cells #[.int .i64 0, .map none] 32)) w1.heap.size 0 none 0 (fun _ => false) := win_new w1
  have ka : ∀ (W : World) (o : Obj), Kept (fun _ => False) W (W.alloc o) := fun W o => (Kept.refl _ _).alloc o
  generalize hA : w1.alloc (.cells #[.int .i64 0, .map none] 32) = wA at *
  have hsA : wA.heap.size = w1.heap.size + 1 := by rw [← hA]; simp
  have kA : Kept (fun _ => False) w wA := by rw [← hA]; exact hk.alloc _
  have mB := Mp.made wA Try.prog 3
  rw [hsA] at mB
  generalize hB : wA.alloc (.map #[] 0) = wB at *
  have hsB : wB.heap.size = w1.heap.size + 1 + 1 := by rw [← hB]; simp [hsA]
  have kB : Kept (fun _ => False) wA wB := by rw [← hB]; exact ka _ _
  have bC := BookHas.new wB
  rw [hsB] at bC
  have kC := ka wB (.cells (bookArr (.slice none 0 0) (.slice none 0 0)) 44)
  generalize wB.alloc (.cells (bookArr (.slice none 0 0) (.slice none 0 0)) 44) = wC at *
  have kall : Kept (fun _ => False) w wC := (kA.trans kB (fun _ _ h => h)).trans kC (fun _ _ h => h)
  have win := (w2.kept kB (fun _ _ h => h)).kept kC (fun _ _ h => h)
  refine ⟨win, (mB.kept kC (fun h => h)).ext (fun x => by unfold ofSet; split <;> simp), bC, ⟨kall, fun k hk => ?_, fun k hk => ?_, fun k h1 h2 => ?_, fun k h1 h2 => ?_, fun k h1 h2 => ?_⟩, fun y => by simp, rfl, by omega, by omega, by omega⟩
  · rcases hk with h | h | h
    · rcases h with h | h
      · omega
      · cases h
    · omega
    · omega
  · rcases hk with h | h | h
    · exact win.lt h
    · have := kC.size; omega
    · exact bC.lt k h
  · rcases h1 with h | h
    · omega
    · cases h
  · rcases h1 with h | h
    · omega
    · cases h
  · omega

theorem store_set {hb : Nat} {Had : Int → Bool} {x : Int} {W : World} {c : Nat} (h : Mp W Try.prog 3 hb c (upd (ofSet Had) (.int .i64 x) (some (.bool true)))) : Mp W Try.prog 3 hb c (ofSet (plus Had x)) := h.ext (ofSet_plus Had x)

/-- The numbers of the window that were had, the first j of the window. -/
def aheadJ (next : Int) (Had : Int → Bool) (j : Nat) : List Int := ((List.range j).map fun i : Nat => next + (i : Int)).filter Had
theorem aheadJ_succ (next : Int) (Had : Int → Bool) (j : Nat) : aheadJ next Had (j + 1) = aheadJ next Had j ++ if Had (next + j) then [next + j] else [] := by
  unfold aheadJ
  rw [List.range_succ, List.map_append, List.filter_append]
  congr 1
  simp [List.filter_cons]
theorem aheadJ_length (next : Int) (Had : Int → Bool) (j : Nat) : (aheadJ next Had j).length ≤ j := by
  unfold aheadJ
  refine Nat.le_trans (List.length_filter_le _ _) ?_
  simp

theorem Ints.nil {w w' : World} (h : Kept (fun _ => False) w w') : Ints w w' (.slice none 0 0) [] := ⟨Sl.nil _ _ _, h, fun k hk => by cases hk⟩
theorem Ints.push {w w1 w2 : World} {v : Value} {l : List Int} {x : Int} (h : Ints w w1 v l) {g off cap : Nat}
    (h1 : Sl w2 3 1 (l.length + 1) (.slice (some ⟨g, off, none⟩) (l.length + 1) cap) (l.map (Value.int .i64) ++ [.int .i64 x])) (h2 : Kept (fun i => v.ownBlock = some i) w1 w2) (h3 : v.ownBlock = some g ∨ w1.heap.size ≤ g) :
    Ints w w2 (.slice (some ⟨g, off, none⟩) (l.length + 1) cap) (l ++ [x]) := by
  refine ⟨?_, h.2.1.trans h2 (fun i hi e => by have := h.2.2 i e; omega), fun i hi => ?_⟩
  · rw [List.length_append, List.map_append]
    simpa using h1
  · simp [Value.ownBlock] at hi
    subst hi
    exact h3.elim (h.2.2 g) (fun e => Nat.le_trans h.2.1.size e)
end Go.Proofs.Ytkcidcfjoaokoaa
