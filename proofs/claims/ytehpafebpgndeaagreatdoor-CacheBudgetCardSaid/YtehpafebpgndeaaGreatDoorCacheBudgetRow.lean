/-
  CacheBudget holds: whatever is written: never more is used than may be; those that were used longest ago go, and no other ones. No condition beyond the given statement itself.
-/
import Derived.Test.YtehpafebpgndeaaGreatDoorCacheBudget
import Derived.Test.YtehpafebpgndeaaGreatDoorArgs
import Derived.Test.YtehpafebpgndeaaGreatDoorCards
import Derived.Test.YtehpafebpgndeaaGreatDoorTie
import Derived.Test.YtehpafebpgndeaaGreatDoorCacheWorld
import Derived.Test.YtehpafebpgndeaaGreatDoorRow
import Derived.Test.YtehpafebpgndeaaGreatDoorCacheBudgetJoin
import Derived.Deep.DeepHandedRow
namespace Go.Proofs.YtehpafebpgndeaaGreatDoor
set_option linter.unusedVariables false
set_option linter.unusedSimpArgs false
set_option linter.unnecessarySimpa false
open Go.ChangeShapes Go.WideShapes Go.ChangeAt Go.RowKit
open Go.ChangeMaps (open_string shut_string)

set_option linter.unusedVariables false
set_option maxRecDepth 100000 in
theorem cacheBudget_contract (H : Type) (enc : TypeId × Value → H) (W : World) (base : Nat) (args : Array Value) (ds gs : List (DataW H)) (before : List MemPlace)
    (hval0 : ∀ (j : Nat) t v, Tryz.f15.params[j]? = some t → args[j]? = some v → Value.okWide Tryz.prog W .any base t v)
    (hW : DataW.Whole enc Tryz.prog Tryz.f15.params.toList Rows.cacheBudgetSpec.vars false W args.toList ds gs before) (hL : laidMetH Tryz.prog Rows.cacheBudgetRow.laid W) :
    Calls Tryz.prog 15 args W fun e W' => ∃ v, e = .returned v ∧ Rows.cacheBudgetSpec.post enc Tryz.prog Tryz.f15 false true false false W args v W' := by
  have hval : ∀ (j : Nat) t v, Tryz.f15.params[j]? = some t → args[j]? = some v → Value.okWide Tryz.prog W .any base t v := hval0
  have hW' := hW
  obtain ⟨p, q, hA0, hV, rfl, hfz, hnd⟩ := hW
  have hA : DataW.TrodAll enc Tryz.prog W 0 (fun _ => true) true Tryz.f15.params.toList args.toList ds p := hA0
  rw [Tryz.params15] at hA hval
  obtain ⟨v0, vs0, d0, ds0, p0, q0, hargs, rfl, rfl, h0, r0⟩ := trodAll_cons hA
  obtain ⟨v1, vs1, d1, ds1, p1, q1, rfl, rfl, rfl, h1, r1⟩ := trodAll_cons r0
  obtain ⟨v2, vs2, d2, ds2, p2, q2, rfl, rfl, rfl, h2, r2⟩ := trodAll_cons r1
  obtain ⟨rfl, rfl, rfl⟩ := trodAll_nil r2
  obtain rfl : args = #[v0, v1, v2] := by cases args; simp_all
  obtain ⟨a0, rfl, rfl, rfl, w0⟩ := open_int Tryz.underlying3 (hval 0 3 v0 rfl rfl) h0
  have b0 := bounds_i64 w0
  obtain ⟨ao1, len1, cap1, rfl⟩ := okWide_slice Tryz.underlying34 (hval 1 34 v1 rfl rfl)
  obtain ⟨l1, rfl, rd1, b1⟩ := open_strings_rd Tryz.underlying34 Tryz.underlying9 (by kernel_rfl) h1
  obtain ⟨ao2, len2, cap2, rfl⟩ := okWide_slice Tryz.underlying34 (hval 2 34 v2 rfl rfl)
  obtain ⟨l2, rfl, rd2, b2⟩ := open_strings_rd Tryz.underlying34 Tryz.underlying9 (by kernel_rfl) h2
  clear hA0 hval0 hval
  refine (cacheBudget_walk a0 l1 l2 ao1 ao2 cap1 cap2 W (laid_of hL) b0.1 b0.2 rd1 rd2).mono fun e W' ⟨he, hg⟩ => ?_
  subst he
  exact ⟨_, rfl, law_post hW' rfl rfl rfl (by kernel_rfl) (hg.below (fun _ _ h => h))⟩

theorem cacheBudget_met (os : Os) : laidMet Tryz.prog Rows.cacheBudgetRow.laid ((laidWorld os).forCall (fun _ _ => 0) ⟨#[], #[.int .i64 0, .slice none 0 0, .slice none 0 0], []⟩).memory :=
  laidMet_of_run' 80 (by kernel_rfl) (by kernel_rfl)
theorem cacheBudget_reads (os : Os) {H : Type} (enc : TypeId × Value → H) : ∃ places, DataW.whole enc Tryz.prog ((laidWorld os).forCall (fun _ _ => 0) ⟨#[], #[.int .i64 0, .slice none 0 0, .slice none 0 0], []⟩).memory Tryz.f15.params.toList Rows.cacheBudgetSpec.vars false (#[.int .i64 0, .slice none 0 0, .slice none 0 0] : Array Value).toList 8 = some ([.lit (.int .i64 0), .nil, .nil], [], places) :=
  ⟨[], by kernel_rfl⟩
set_option maxRecDepth 100000 in
theorem cacheBudget_lifted (os : Os) (started : os.Started) (H : Type) (enc : TypeId × Value → H) (I : Stop.Interp) :
    ReturnsInHanded {} Tryz.checked os 15 .any ((OpenSpec.ofChange Rows.cacheBudgetSpec).preRow enc Tryz.prog Tryz.f15 Rows.cacheBudgetRow.domain false Rows.cacheBudgetRow.laid) (((OpenSpec.ofChange Rows.cacheBudgetSpec).at I).post enc Tryz.prog Tryz.f15 false true false false) := by
  obtain ⟨places, hx⟩ := cacheBudget_reads os enc
  refine returnsInHanded_of_row (C := Tryz.checked) (s := OpenSpec.ofChange Rows.cacheBudgetSpec) own_knob started (by kernel_rfl) Tryz.func15
    (witness_row_at (enc := enc) (C := Tryz.checked) false (laidWorld os) #[.int .i64 0, .slice none 0 0, .slice none 0 0] rfl (by kernel_rfl) (by kernel_rfl) (by kernel_rfl)
      (OpenSpec.preRow_of_cond 8 hx (by kernel_rfl) (fun k hk => by cases hk) (by kernel_rfl) (cacheBudget_met os))) ?_
  intro W base args ds gs before hval hW _ _ _ hL _ _
  exact cacheBudget_contract H enc W base args ds gs before hval hW hL

theorem cacheBudget_said : Rows.CacheBudgetSaid :=
  OpenClaim.holds_of_cond 15 Tryz.f15 rfl rfl rfl rfl rfl rfl rfl ⟨rfl, rfl, rfl, rfl, rfl⟩ rfl rfl rfl rfl rfl (by kernel_rfl) Tryz.func15 cacheBudget_closed
    (of_decide_eq_true (by kernel_rfl)) (by unfold Func.isWrapper; first | (rw [if_pos (by decide +kernel)]; kernel_rfl) | (rw [if_neg (by decide +kernel)]; exact ⟨rfl, rfl⟩))
    (fun os started H enc _ I => by rw [OpenClaim.pre_eq_preRow]; exact cacheBudget_lifted os started H enc I)
theorem cacheBudget_plain (f : FuncId) (fn : Func) (hf : Tryz.pinned.checked.prog.funcNamed "escutcheon/escutcheonlaw21.CacheBudget" = some f) (hfn : Tryz.pinned.checked.prog.funcs[f]? = some fn) :
    true = Tryz.pinned.checked.prog.looks [] ∧ ∀ (j : Nat) t, fn.params[j]? = some t → Tryz.pinned.checked.prog.wantsStandIn t = false := by
  obtain rfl : f = 15 := Option.some.inj ((show Tryz.prog.funcNamed "escutcheon/escutcheonlaw21.CacheBudget" = some 15 by kernel_rfl).symm.trans hf) |>.symm
  obtain rfl : fn = Tryz.f15 := (Option.some.inj (Tryz.func15.symm.trans hfn)).symm
  refine ⟨by kernel_rfl, fun j t ht => ?_⟩
  rw [Tryz.params15] at ht
  have hm := Array.mem_of_getElem? ht
  have hall : (#[3, 34, 34] : Array TypeId).toList.all (fun t => !Tryz.prog.wantsStandIn t) = true := by kernel_rfl
  have := List.all_eq_true.1 hall t (by simpa using hm)
  show Tryz.prog.wantsStandIn t = false
  simpa using this
theorem cacheBudget_card : Rows.CacheBudgetCardSaid :=
  Claim7.holds_tied_plain_at .later [] _ _ _ _ cacheBudget_said (fun _ h => by cases h) (by kernel_rfl) (fun _ h => by cases h) cacheBudget_row_tie rfl ⟨rfl, rfl⟩ (start_main.trans (congrArg (fun s => some (true, s)) start_sum)) rfl cacheBudget_plain (by kernel_rfl)
#print axioms cacheBudget_card
end Go.Proofs.YtehpafebpgndeaaGreatDoor
