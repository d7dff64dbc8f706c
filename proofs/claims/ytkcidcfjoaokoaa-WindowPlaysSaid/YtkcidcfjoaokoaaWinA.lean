/-
  The walks of package window: Next, May, Take, over a Window in memory.
-/
import Derived.Test.YtkcidcfjoaokoaaMap
import Derived.Test.YtkcidcfjoaokoaaAtom
import Derived.BigRegion
import Derived.BigQuiet
import Derived.Deep.QuietTactic
import Derived.Deep.RegionLaw
import Derived.Deep.DeepCutAuto
import Derived.Deep.LoopGhost
import Derived.WalkSpells
import Derived.WalkLawsBesides
namespace Go.Proofs.Ytkcidcfjoaokoaa
set_option linter.unusedVariables false
set_option linter.unusedSimpArgs false
set_option linter.unnecessarySimpa false
open Go.RowKit Go.Maps

/-- The set of numbers that are there, as a map's content. -/
noncomputable def ofSet (S : Int → Bool) : Lit → Option Value
  | .int .i64 x => if S x then some (.bool true) else none
  | _ => none

/-- A Window in memory: the next number; the map's block, if there is one; the numbers in it. -/
def WinAt (w : World) (b : Nat) (next : Int) (mo : Option Nat) (cnt : Nat) (S : Int → Bool) : Prop :=
  w.heap[b]? = some (.cells #[.int .i64 next, .map mo] 32 (0, 0)) ∧
    match mo with
    | none => cnt = 0 ∧ ∀ x, S x = false
    | some mb => Mp w Try.prog 3 mb cnt (ofSet S) ∧ mb ≠ b

theorem ikey : Keyed Try.prog 3 := int_keyed Try.underlying3
theorem zero_bool (w : World) : (zeroValue 4).run Try.prog w = .ok (.bool false) w := by kernel_rfl

/-- 'm[x]': is it there? -/
theorem WinAt.look {w : World} {b : Nat} {next : Int} {mo : Option Nat} {cnt : Nat} {S : Int → Bool} (h : WinAt w b next mo cnt S) (x : Int) (hx : (Lit.int .i64 x).wf = true) :
    (Instr.lookup 30 (.map mo) (.int .i64 x) false).run Try.prog w = .ok (.bool (S x)) w := by
  have hkey := keyOf_int_mk Try.underlying3 hx
  cases mo with
  | none =>
    rw [h.2.2 x]
    exact look_nil false ikey Try.underlying30 (zero_bool w) hkey
  | some mb =>
    cases hs : S x with
    | true => exact h.2.1.look ikey Try.underlying30 (zero_bool w) hkey (by simp [ofSet, hs])
    | false => exact h.2.1.look_none ikey Try.underlying30 (zero_bool w) hkey (by simp [ofSet, hs])

theorem next_any (b : Nat) (next : Int) (mo : Option Nat) (cnt : Nat) (S : Int → Bool) (w : World) (h : WinAt w b next mo cnt S) :
    Calls Try.prog 13 #[.pointer (some ⟨b, 0, none⟩)] w fun e w' => e = .returned (.int .i64 next) ∧ w = w' := by
  have k0 := cell_at h.1 0
  simp at k0
  go_enter Try.func13, Try.ntmps13
  go_wp2_with fail
  refine (atomic_load b 0 next _ k0).mono ?_
  rintro e w1 ⟨rfl, rfl⟩
  go_wp2_with fail
  go_ret
  exact ⟨rfl, rfl⟩

/-- May a number be taken? -/
def mayB (next : Int) (S : Int → Bool) (x : Int) : Bool := decide (next ≤ x) && decide (x - next < 64) && !S x

set_option maxRecDepth 100000 in
set_option maxHeartbeats 400000 in
theorem may_any (b : Nat) (next : Int) (mo : Option Nat) (cnt : Nat) (S : Int → Bool) (x : Int) (w : World) (h : WinAt w b next mo cnt S) (hn : 0 ≤ next) (hx0 : -9223372036854775808 ≤ x) (hx1 : x ≤ 9223372036854775807) :
    Calls Try.prog 10 #[.pointer (some ⟨b, 0, none⟩), .int .i64 x] w fun e w' => e = .returned (.bool (mayB next S x)) ∧ w = w' := by
  have hl := h.look x (WalkArith.wf_i64 ⟨hx0, hx1⟩)
  have k1 := cell_at h.1 1
  simp at k1
  by_cases c1 : next ≤ x
  · by_cases c2 : x - next < 64
    · have hfin : mayB next S x = !S x := by simp [mayB, c1, c2]
      rw [hfin]
      clear hfin
      generalize S x = s at *
      go_enter Try.func10, Try.ntmps10
      go_wp2_with fail
      refine (next_any b next mo cnt S _ h).mono ?_
      rintro e w1 ⟨rfl, rfl⟩
      go_wp2_with fail
      go_ret
      exact ⟨rfl, rfl⟩
    · have hfin : mayB next S x = false := by simp [mayB, c2]
      rw [hfin]
      clear hfin
      go_enter Try.func10, Try.ntmps10
      go_wp2_with fail
      refine (next_any b next mo cnt S _ h).mono ?_
      rintro e w1 ⟨rfl, rfl⟩
      go_wp2_with fail
      go_ret
      exact ⟨rfl, rfl⟩
  · have hfin : mayB next S x = false := by simp [mayB, c1]
    rw [hfin]
    clear hfin
    go_enter Try.func10, Try.ntmps10
    go_wp2_with fail
    refine (next_any b next mo cnt S _ h).mono ?_
    rintro e w1 ⟨rfl, rfl⟩
    go_wp2_with fail
    go_ret
    exact ⟨rfl, rfl⟩

theorem take_no (b : Nat) (next : Int) (mo : Option Nat) (cnt : Nat) (S : Int → Bool) (x : Int) (w : World) (h : WinAt w b next mo cnt S) (hn : 0 ≤ next) (hx0 : -9223372036854775808 ≤ x) (hx1 : x ≤ 9223372036854775807) (hm : mayB next S x = false) :
    Calls Try.prog 9 #[.pointer (some ⟨b, 0, none⟩), .int .i64 x] w fun e w' => e = .returned (.bool false) ∧ w = w' := by
  have hc := may_any b next mo cnt S x w h hn hx0 hx1
  rw [hm] at hc
  have HC := Lib.hid hc
  clear hc hm
  go_enter Try.func9, Try.ntmps9
  go_wp2_with fail
  refine HC.out.mono ?_
  rintro e w1 ⟨rfl, rfl⟩
  go_wp2_with fail
  go_ret
  exact ⟨rfl, rfl⟩

/-- The blocks of a Window. -/
def winF (b : Nat) (mo : Option Nat) (k : Nat) : Prop := k = b ∨ mo = some k

/-- The set with one number more. -/
def plus (S : Int → Bool) (x y : Int) : Bool := S y || decide (y = x)
/-- What is left of it from n on. -/
def from_ (n : Int) (S : Int → Bool) (y : Int) : Bool := S y && decide (n ≤ y)

/-- Behind a Take that was let. -/
def Took (w w' : World) (b : Nat) (next : Int) (mo : Option Nat) (cnt : Nat) (S : Int → Bool) (x : Int) : Prop :=
  ∃ next' mo' cnt', WinAt w' b next' mo' cnt' (from_ next' (plus S x)) ∧ next ≤ next' ∧ next' ≤ next + 64 ∧ (∀ k, next ≤ k → k < next' → plus S x k = true) ∧ plus S x next' = false ∧ cnt' ≤ cnt + 1 ∧ Kept (winF b mo) w w' ∧ ∀ k, winF b mo' k → winF b mo k ∨ w.heap.size ≤ k

theorem ofSet_plus (S : Int → Bool) (x : Int) : ∀ kl, upd (ofSet S) (.int .i64 x) (some (.bool true)) kl = ofSet (plus S x) kl := by
  intro kl
  unfold upd
  by_cases h : kl = .int .i64 x
  · rw [if_pos h, h]; simp [ofSet, plus]
  · rw [if_neg h]
    cases kl with
    | int q y =>
      cases q <;> simp only [ofSet]
      have : y ≠ x := fun e => h (by rw [e])
      simp [plus, this]
    | _ => rfl
theorem ofSet_drop (S : Int → Bool) (n : Int) : ∀ kl, upd (ofSet (from_ n S)) (.int .i64 n) none kl = ofSet (from_ (n + 1) S) kl := by
  intro kl
  unfold upd
  by_cases h : kl = .int .i64 n
  · rw [if_pos h, h]
    have : from_ (n + 1) S n = false := by simp [from_]; intro _; omega
    simp [ofSet, this]
  · rw [if_neg h]
    cases kl with
    | int q y =>
      cases q <;> simp only [ofSet]
      have hne : y ≠ n := fun e => h (by rw [e])
      have : from_ n S y = from_ (n + 1) S y := by
        unfold from_
        congr 1
        simp only [decide_eq_decide]
        omega
      rw [this]
    | _ => rfl

theorem take_made {w : World} {b : Nat} {next : Int} {cnt : Nat} {S : Int → Bool} (h : WinAt w b next none cnt S) (hlt : b < w.heap.size) :
    ∃ mb, ((w.setCell ⟨b, 1, none⟩ (.map (some w.heap.size))).alloc (.map #[] 0)).heap[b]? = some (.cells #[.int .i64 next, .map (some mb)] 32 (0, 0)) ∧ Mp ((w.setCell ⟨b, 1, none⟩ (.map (some w.heap.size))).alloc (.map #[] 0)) Try.prog 3 mb cnt (ofSet S) ∧ mb ≠ b ∧
      Kept (winF b none) w ((w.setCell ⟨b, 1, none⟩ (.map (some w.heap.size))).alloc (.map #[] 0)) ∧ (none = some mb ∨ w.heap.size ≤ mb) := by
  have hs : (w.setCell ⟨b, 1, none⟩ (.map (some w.heap.size))).heap.size = w.heap.size := by simp [World.setCell]
  obtain ⟨h1, h2, h3⟩ := h
  subst h2
  refine ⟨w.heap.size, ?_, ?_, by omega, ((Kept.refl _ w).setCell (p := ⟨b, 1, none⟩) (fun _ => .inl rfl) _).alloc _, .inr (Nat.le_refl _)⟩
  · rw [Below.heap_alloc _ _ _ (by omega), setCell_block h1]
    rfl
  · have hm := Mp.made (w.setCell ⟨b, 1, none⟩ (.map (some w.heap.size))) Try.prog 3
    rw [hs] at hm
    refine hm.ext (fun kl => ?_)
    cases kl with
    | int q y => cases q <;> simp [ofSet, h3]
    | _ => rfl

set_option maxRecDepth 100000 in
set_option maxHeartbeats 800000 in
theorem take_yes (b : Nat) (next : Int) (mo : Option Nat) (cnt : Nat) (S : Int → Bool) (x : Int) (w : World) (h : WinAt w b next mo cnt S) (hn : 0 ≤ next) (hn1 : next ≤ 1000000000) (hc : cnt ≤ 1000000000) (hS : ∀ y, S y = true → next ≤ y ∧ y < next + 64)
    (hx0 : -9223372036854775808 ≤ x) (hx1 : x ≤ 9223372036854775807) (hm : mayB next S x = true) :
    Calls Try.prog 9 #[.pointer (some ⟨b, 0, none⟩), .int .i64 x] w fun e w' => e = .returned (.bool true) ∧ Took w w' b next mo cnt S x := by
  have hcc := may_any b next mo cnt S x w h hn hx0 hx1
  rw [hm] at hcc
  have HC := Lib.hid hcc
  have HM := Lib.hid hm
  clear hcc hm
  have k1 := cell_at h.1 1
  have f1 := frozen_at h.1 1
  have hlt := lt_of_block h.1
  simp at k1
  have qT := fun (w : World) (r : Option Nat) => run_eql_map_nil (P := Try.prog) w 30 3 4 r Try.underlying30
  have hmm := @run_makeMap Try.prog
  go_enter Try.func9, Try.ntmps9
  go_upto_if 13 with (go_at_call 10; refine HC.out.mono ?_; rintro e w1 ⟨rfl, rfl⟩)
  go_cut [] (fun wr => ∃ mb, wr.heap[b]? = some (.cells #[.int .i64 next, .map (some mb)] 32 (0, 0)) ∧ Mp wr Try.prog 3 mb cnt (ofSet S) ∧ mb ≠ b ∧ Kept (winF b mo) w wr ∧ (mo = some mb ∨ w.heap.size ≤ mb))
  case first =>
    cases mo with
    | some mb =>
      go_wp2_with fail
      go_meet
      case rel => exact ⟨mb, h.1, h.2.1, h.2.2, Kept.refl _ _, .inl rfl⟩
    | none =>
      go_wp2_with fail
      go_meet
      case rel => exact take_made h hlt
  case rest =>
    obtain ⟨mb, hb, hmp, hne, hk, hmb⟩ := hcut
    have k1 := cell_at hb 1
    simp at k1
    clear hlt f1 h hmm qT
    have hx := keyOf_int_mk Try.underlying3 (WalkArith.wf_i64 ⟨hx0, hx1⟩)
    have HX := Lib.hid hx
    clear hx
    have hcm : cnt < maxLen := by unfold maxLen; omega
    go_wp2_with (at_mapUpdate; refine wpList_store_mp _ rfl (.tmp 21) (.tmp 22) (.const (.bool true)) rfl ikey Try.underlying30 rfl hmp hcm (.int .i64 x) (.bool true) (.int .i64 x) rfl rfl HX.out ?_; intro w2 hmp2 hk2; simp only [Act.put])
    have hM := HM.out
    simp only [mayB, Bool.and_eq_true, decide_eq_true_eq, Bool.not_eq_true'] at hM
    obtain ⟨⟨m1, m2⟩, m3⟩ := hM
    have e1 : (ofSet S (.int .i64 x)).isSome = false := by simp [ofSet, m3]
    rw [e1] at hmp2
    have hmp3 : Mp w2 Try.prog 3 mb (cnt + 1) (ofSet (from_ next (plus S x))) := hmp2.ext (fun kl => by
      rw [ofSet_plus]
      cases kl with
      | int q y =>
        cases q <;> simp only [ofSet]
        have : plus S x y = from_ next (plus S x) y := by
          unfold from_
          cases hp : plus S x y with
          | false => rfl
          | true =>
            simp only [plus, Bool.or_eq_true, decide_eq_true_eq] at hp
            have : next ≤ y := by
              rcases hp with hp | rfl
              · exact (hS y hp).1
              · exact m1
            simp [this]
        rw [this]
      | _ => rfl)
    have hP : ∀ y, plus S x y = true → next ≤ y ∧ y < next + 64 := by
      intro y hp
      simp only [plus, Bool.or_eq_true, decide_eq_true_eq] at hp
      rcases hp with hp | rfl
      · exact hS y hp
      · exact ⟨m1, by omega⟩
    have hb2 := (hk2.block b (lt_of_block hb) (fun e => hne e.symm)).trans hb
    have hk3 : Kept (fun k => winF b mo k ∨ k = mb) w w2 := (hk.mono (fun _ _ h => Or.inl h)).trans hk2 (fun _ _ h => .inr h)
    generalize hTe : plus S x = T at *
    have HTE := Lib.hid hTe
    clear hTe
    have HP := Lib.hid hP
    have HMB := Lib.hid hmb
    clear hP hmp hmp2 hk2 hb k1 hk e1 m1 m2 m3 HX hS HM hcm hmb
    go_loopg [] 65 (fun g wr => ∃ (n : Int) (c : Nat), next ≤ n ∧ n ≤ next + 64 ∧ n + g = next + 65 ∧ wr.heap[b]? = some (.cells #[.int .i64 n, .map (some mb)] 32 (0, 0)) ∧ Mp wr Try.prog 3 mb c (ofSet (from_ n T)) ∧ c ≤ cnt + 1 ∧ (∀ k, next ≤ k → k < n → T k = true) ∧ Kept (fun k => winF b mo k ∨ k = mb) w wr)
    case atStart => exact ⟨next, cnt + 1, by omega, by omega, by omega, hb2, hmp3, Nat.le_refl _, fun k h1 h2 => by omega, hk3⟩
    case round =>
      obtain ⟨n, c, n1, n2, n3, hb3, hmp4, hc4, hall, hk4⟩ := hrel
      have hwin : ∀ q, WinAt (wr.drewN q) b n (some mb) c (from_ n T) := fun q => ⟨hb3, hmp4, hne⟩
      have hlook : ∀ q, (Instr.lookup 30 (.map (some mb)) (.int .i64 n) false).run Try.prog (wr.drewN q) = .ok (.bool (from_ n T n)) (wr.drewN q) := fun q => (hwin q).look n (WalkArith.wf_i64 ⟨by omega, by omega⟩)
      have k1 := cell_at hb3 1
      simp at k1
      by_cases hT : T n = true
      · have e1 : from_ n T n = true := by simp [from_, hT]
        rw [e1] at hlook
        have n4 := HP.out n hT
        have HH := Lib.hid hall
        clear hall e1
        go_upto_region 6 with (fail)
        go_quiet ((go_at_call 13; exact Calls.quiet_of_same ((next_any b n (some mb) c _ _ (hwin _)).mono fun _ _ h => ⟨h.1, h.2.symm⟩)))
        go_upto_region 7 with (fail)
        have hx := keyOf_int_mk Try.underlying3 (WalkArith.wf_i64 (n := n) ⟨by omega, by omega⟩)
        have HX := Lib.hid hx
        clear hx hlook
        go_cut [] (fun w3 => Mp w3 Try.prog 3 mb (c - 1) (ofSet (from_ (n + 1) T)) ∧ Kept (fun k => k = mb) wr w3)
        case first =>
          go_region_law (first | (refine step_drop_mp _ rfl (.tmp 33) (.tmp 35) rfl ikey Try.underlying30 rfl (hmp4.drewN _) (.int .i64 n) (.int .i64 n) rfl HX.out ?_; intro w3 hmp5 hk5) | (go_simp; go_at_call 13; refine (next_any b n (some mb) c _ _ (hwin _)).mono ?_; rintro e w' ⟨rfl, rfl⟩))
          all_goals
            go_wp2_with fail
            go_meet
            case rel =>
              have e2 : (ofSet (from_ n T) (.int .i64 n)).isSome = true := by simp [ofSet, from_, hT]
              rw [e2] at hmp5
              exact ⟨hmp5.ext (fun kl => ofSet_drop T n kl), ((Kept.refl (fun k => k = mb) wr).drewN _).trans hk5 (fun _ _ h => h)⟩
        case rest =>
          obtain ⟨hmp5, hk5⟩ := hcut
          have hb4 := (hk5.block b (lt_of_block hb3) (fun e => hne e.symm)).trans hb3
          have x0 := cell_at hb4 0
          have f0 := frozen_at hb4 0
          have hw64 : wrap64 (n + 1) = n + 1 := by unfold wrap64; omega
          have HW := Lib.hid hw64
          have hb5 := setCell_block hb4 0 (.int .i64 (n + 1))
          simp at x0 hb5
          clear hw64 k1 hwin
          go_wp2_with fail
          refine (atomic_add b 0 n 1 (n + 1) _ x0 f0 HW.out).mono ?_
          rintro e w4 ⟨rfl, rfl⟩
          go_wp2_with fail
          go_roundg (gk - 1)
          case measure => omega
          case rel =>
            refine ⟨n + 1, c - 1, by omega, by omega, by omega, hb5, hmp5.same (Below.heap_setCell _ _ _ _ hne), by omega, fun k h1 h2 => ?_, (hk4.trans (hk5.mono (fun _ _ h => Or.inr h)) (fun _ _ h => h)).setCell (p := ⟨b, 0, none⟩) (fun _ => .inl (.inl rfl)) _⟩
            rcases Int.lt_or_le k n with h | h
            · exact HH.out k h1 h
            · obtain rfl : k = n := by omega
              exact hT
      · have hT2 : T n = false := by simpa using hT
        have e1 : from_ n T n = false := by simp [from_, hT2]
        rw [e1] at hlook
        have HH := Lib.hid hall
        clear hall e1 hT
        go_upto_region 6 with (fail)
        go_quiet ((go_at_call 13; exact Calls.quiet_of_same ((next_any b n (some mb) c _ _ (hwin _)).mono fun _ _ h => ⟨h.1, h.2.symm⟩)))
        go_wp2_with fail
        go_ret
        have hmb := HMB.out
        obtain rfl := HTE.out
        refine ⟨rfl, n, some mb, c, (hwin nq), n1, n2, HH.out, hT2, hc4, (hk4.drewN nq).mono (fun k hk hs => ?_), fun k hk => ?_⟩
        · rcases hs with hs | rfl
          · exact hs
          · rcases hmb with h | h
            · exact .inr h
            · omega
        · rcases hk with rfl | hk
          · exact .inl (.inl rfl)
          · injection hk with hk
            subst hk
            exact hmb.imp .inr id
end Go.Proofs.Ytkcidcfjoaokoaa
