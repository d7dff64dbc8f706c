/-
  CacheSweeps holds: what is over goes ahead of the next command, whatever that is, and is not counted as evicted. No condition beyond the given statement itself.
-/
import Derived.Test.YtehpafebpgndeaaGreatDoorCacheSweeps
import Derived.Test.YtehpafebpgndeaaGreatDoorArgs
import Derived.Test.YtehpafebpgndeaaGreatDoorCards
import Derived.Test.YtehpafebpgndeaaGreatDoorTie
import Derived.Test.YtehpafebpgndeaaGreatDoorCacheWorld
import Derived.Test.YtehpafebpgndeaaGreatDoorRow
import Derived.Test.YtehpafebpgndeaaGreatDoorCacheSweepsJoin
import Derived.Deep.DeepHandedRow
namespace Go.Proofs.YtehpafebpgndeaaGreatDoor
set_option linter.unusedVariables false
set_option linter.unusedSimpArgs false
set_option linter.unnecessarySimpa false
open Go.ChangeShapes Go.WideShapes Go.ChangeAt Go.RowKit
open Go.ChangeMaps (open_string shut_string)

set_option linter.unusedVariables false
set_option maxRecDepth 100000 in
theorem cacheSweeps_contract (H : Type) (enc : TypeId × Value → H) (W : World) (base : Nat) (args : Array Value) (ds gs : List (DataW H)) (before : List MemPlace)
    (hval0 : ∀ (j : Nat) t v, Tryz.f14.params[j]? = some t → args[j]? = some v → Value.okWide Tryz.prog W .any base t v)
    (hW : DataW.Whole enc Tryz.prog Tryz.f14.params.toList Rows.cacheSweepsSpec.vars false W args.toList ds gs before) (hL : laidMetH Tryz.prog Rows.cacheSweepsRow.laid W) :
    Calls Tryz.prog 14 args W fun e W' => ∃ v, e = .returned v ∧ Rows.cacheSweepsSpec.post enc Tryz.prog Tryz.f14 false true false false W args v W' := by
  have hval : ∀ (j : Nat) t v, Tryz.f14.params[j]? = some t → args[j]? = some v → Value.okWide Tryz.prog W .any base t v := hval0
  have hW' := hW
  obtain ⟨p, q, hA0, hV, rfl, hfz, hnd⟩ := hW
  have hA : DataW.TrodAll enc Tryz.prog W 0 (fun _ => true) true Tryz.f14.params.toList args.toList ds p := hA0
  rw [Tryz.params14] at hA hval
  obtain ⟨v0, vs0, d0, ds0, p0, q0, hargs, rfl, rfl, h0, r0⟩ := trodAll_cons hA
  obtain ⟨v1, vs1, d1, ds1, p1, q1, rfl, rfl, rfl, h1, r1⟩ := trodAll_cons r0
  obtain ⟨v2, vs2, d2, ds2, p2, q2, rfl, rfl, rfl, h2, r2⟩ := trodAll_cons r1
  obtain ⟨rfl, rfl, rfl⟩ := trodAll_nil r2
  obtain rfl : args = #[v0, v1, v2] := by cases args; simp_all
  obtain ⟨ao0, len0, cap0, rfl⟩ := okWide_slice Tryz.underlying46 (hval 0 46 v0 rfl rfl)
  obtain ⟨l0, rfl, rd0, b0⟩ := open_ints_rd Tryz.underlying46 Tryz.underlying3 (by kernel_rfl) h0
  obtain ⟨a1, rfl, rfl, rfl, w1⟩ := open_int Tryz.underlying3 (hval 1 3 v1 rfl rfl) h1
  have b1 := bounds_i64 w1
  obtain ⟨a2, rfl, rfl, rfl, w2⟩ := open_int Tryz.underlying3 (hval 2 3 v2 rfl rfl) h2
  have b2 := bounds_i64 w2
  clear hA0 hval0 hval
  refine (cacheSweeps_walk l0 ao0 cap0 a1 a2 W (laid_of hL) rd0 b1.1 b1.2 b2.1 b2.2).mono fun e W' ⟨he, hg⟩ => ?_
  subst he
  exact ⟨_, rfl, law_post hW' rfl rfl rfl (by kernel_rfl) (hg.below (fun _ _ h => h))⟩

theorem cacheSweeps_met (os : Os) : laidMet Tryz.prog Rows.cacheSweepsRow.laid ((laidWorld os).forCall (fun _ _ => 0) ⟨#[], #[.slice none 0 0, .int .i64 0, .int .i64 0], []⟩).memory :=
  laidMet_of_run' 80 (by kernel_rfl) (by kernel_rfl)
theorem cacheSweeps_reads (os : Os) {H : Type} (enc : TypeId × Value → H) : ∃ places, DataW.whole enc Tryz.prog ((laidWorld os).forCall (fun _ _ => 0) ⟨#[], #[.slice none 0 0, .int .i64 0, .int .i64 0], []⟩).memory Tryz.f14.params.toList Rows.cacheSweepsSpec.vars false (#[.slice none 0 0, .int .i64 0, .int .i64 0] : Array Value).toList 8 = some ([.nil, .lit (.int .i64 0), .lit (.int .i64 0)], [], places) :=
  ⟨[], by kernel_rfl⟩
set_option maxRecDepth 100000 in
theorem cacheSweeps_lifted (os : Os) (started : os.Started) (H : Type) (enc : TypeId × Value → H) (I : Stop.Interp) :
    ReturnsInHanded {} Tryz.checked os 14 .any ((OpenSpec.ofChange Rows.cacheSweepsSpec).preRow enc Tryz.prog Tryz.f14 Rows.cacheSweepsRow.domain false Rows.cacheSweepsRow.laid) (((OpenSpec.ofChange Rows.cacheSweepsSpec).at I).post enc Tryz.prog Tryz.f14 false true false false) := by
  obtain ⟨places, hx⟩ := cacheSweeps_reads os enc
  refine returnsInHanded_of_row (C := Tryz.checked) (s := OpenSpec.ofChange Rows.cacheSweepsSpec) own_knob started (by kernel_rfl) Tryz.func14
    (witness_row_at (enc := enc) (C := Tryz.checked) false (laidWorld os) #[.slice none 0 0, .int .i64 0, .int .i64 0] rfl (by kernel_rfl) (by kernel_rfl) (by kernel_rfl)
      (OpenSpec.preRow_of_cond 8 hx (by kernel_rfl) (fun k hk => by cases hk) (by kernel_rfl) (cacheSweeps_met os))) ?_
  intro W base args ds gs before hval hW _ _ _ hL _ _
  exact cacheSweeps_contract H enc W base args ds gs before hval hW hL

theorem cacheSweeps_said : Rows.CacheSweepsSaid :=
  OpenClaim.holds_of_cond 14 Tryz.f14 rfl rfl rfl rfl rfl rfl rfl ⟨rfl, rfl, rfl, rfl, rfl⟩ rfl rfl rfl rfl rfl (by kernel_rfl) Tryz.func14 cacheSweeps_closed
    (of_decide_eq_true (by kernel_rfl)) (by unfold Func.isWrapper; first | (rw [if_pos (by decide +kernel)]; kernel_rfl) | (rw [if_neg (by decide +kernel)]; exact ⟨rfl, rfl⟩))
    (fun os started H enc _ I => by rw [OpenClaim.pre_eq_preRow]; exact cacheSweeps_lifted os started H enc I)
theorem cacheSweeps_plain (f : FuncId) (fn : Func) (hf : Tryz.pinned.checked.prog.funcNamed "escutcheon/escutcheonlaw21.CacheSweeps" = some f) (hfn : Tryz.pinned.checked.prog.funcs[f]? = some fn) :
    true = Tryz.pinned.checked.prog.looks [] ∧ ∀ (j : Nat) t, fn.params[j]? = some t → Tryz.pinned.checked.prog.wantsStandIn t = false := by
  obtain rfl : f = 14 := Option.some.inj ((show Tryz.prog.funcNamed "escutcheon/escutcheonlaw21.CacheSweeps" = some 14 by kernel_rfl).symm.trans hf) |>.symm
  obtain rfl : fn = Tryz.f14 := (Option.some.inj (Tryz.func14.symm.trans hfn)).symm
  refine ⟨by kernel_rfl, fun j t ht => ?_⟩
  rw [Tryz.params14] at ht
  have hm := Array.mem_of_getElem? ht
  have hall : (#[46, 3, 3] : Array TypeId).toList.all (fun t => !Tryz.prog.wantsStandIn t) = true := by kernel_rfl
  have := List.all_eq_true.1 hall t (by simpa using hm)
  show Tryz.prog.wantsStandIn t = false
  simpa using this
theorem cacheSweeps_card : Rows.CacheSweepsCardSaid :=
  Claim7.holds_tied_plain_at .later [] _ _ _ _ cacheSweeps_said (fun _ h => by cases h) (by kernel_rfl) (fun _ h => by cases h) cacheSweeps_row_tie rfl ⟨rfl, rfl⟩ (start_main.trans (congrArg (fun s => some (true, s)) start_sum)) rfl cacheSweeps_plain (by kernel_rfl)
#print axioms cacheSweeps_card
end Go.Proofs.YtehpafebpgndeaaGreatDoor
