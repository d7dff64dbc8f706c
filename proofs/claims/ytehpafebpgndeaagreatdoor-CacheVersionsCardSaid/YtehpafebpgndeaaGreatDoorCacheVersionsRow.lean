/-
  CacheVersions holds: each write gives a version greater than all ahead, over all keys; what only reads gives none. No condition beyond the given statement itself.
-/
import Derived.Test.YtehpafebpgndeaaGreatDoorCacheVersions
import Derived.Test.YtehpafebpgndeaaGreatDoorCmArg
import Derived.Test.YtehpafebpgndeaaGreatDoorCards
import Derived.Test.YtehpafebpgndeaaGreatDoorTie
import Derived.Test.YtehpafebpgndeaaGreatDoorCacheWorld
import Derived.Test.YtehpafebpgndeaaGreatDoorRow
import Derived.Test.YtehpafebpgndeaaGreatDoorCacheVersionsJoin
import Derived.Deep.DeepHandedRow
namespace Go.Proofs.YtehpafebpgndeaaGreatDoor
set_option linter.unusedVariables false
set_option linter.unusedSimpArgs false
set_option linter.unnecessarySimpa false
open Go.ChangeShapes Go.WideShapes Go.ChangeAt Go.RowKit
open Go.ChangeMaps (open_string shut_string)

set_option linter.unusedVariables false
set_option maxRecDepth 100000 in
theorem cacheVersions_contract (H : Type) (enc : TypeId × Value → H) (W : World) (base : Nat) (args : Array Value) (ds gs : List (DataW H)) (before : List MemPlace)
    (hval0 : ∀ (j : Nat) t v, Tryz.f10.params[j]? = some t → args[j]? = some v → Value.okWide Tryz.prog W .any base t v)
    (hW : DataW.Whole enc Tryz.prog Tryz.f10.params.toList Rows.cacheVersionsSpec.vars false W args.toList ds gs before) (hL : laidMetH Tryz.prog Rows.cacheVersionsRow.laid W) :
    Calls Tryz.prog 10 args W fun e W' => ∃ v, e = .returned v ∧ Rows.cacheVersionsSpec.post enc Tryz.prog Tryz.f10 false true false false W args v W' := by
  have hval : ∀ (j : Nat) t v, Tryz.f10.params[j]? = some t → args[j]? = some v → Value.okWide Tryz.prog W .any base t v := hval0
  have hW' := hW
  obtain ⟨p, q, hA0, hV, rfl, hfz, hnd⟩ := hW
  have hA : DataW.TrodAll enc Tryz.prog W 0 (fun _ => true) true Tryz.f10.params.toList args.toList ds p := hA0
  rw [Tryz.params10] at hA hval
  obtain ⟨v0, vs0, d0, ds0, p0, q0, hargs, rfl, rfl, h0, r0⟩ := trodAll_cons hA
  obtain ⟨rfl, rfl, rfl⟩ := trodAll_nil r0
  obtain rfl : args = #[v0] := by cases args; simp_all
  obtain ⟨ao0, len0, cap0, rfl⟩ := okWide_slice Tryz.underlying52 (hval 0 52 v0 rfl rfl)
  obtain ⟨l0, rfl, rd0, b0⟩ := open_cms h0
  clear hA0 hval0 hval
  refine (cacheVersions_walk l0 ao0 cap0 W (laid_of hL) rd0).mono fun e W' ⟨he, hg⟩ => ?_
  subst he
  exact ⟨_, rfl, law_post hW' rfl rfl rfl (by kernel_rfl) (hg.below (fun _ _ h => h))⟩

theorem cacheVersions_met (os : Os) : laidMet Tryz.prog Rows.cacheVersionsRow.laid ((laidWorld os).forCall (fun _ _ => 0) ⟨#[], #[.slice none 0 0], []⟩).memory :=
  laidMet_of_run' 80 (by kernel_rfl) (by kernel_rfl)
theorem cacheVersions_reads (os : Os) {H : Type} (enc : TypeId × Value → H) : ∃ places, DataW.whole enc Tryz.prog ((laidWorld os).forCall (fun _ _ => 0) ⟨#[], #[.slice none 0 0], []⟩).memory Tryz.f10.params.toList Rows.cacheVersionsSpec.vars false (#[.slice none 0 0] : Array Value).toList 8 = some ([.nil], [], places) :=
  ⟨[], by kernel_rfl⟩
set_option maxRecDepth 100000 in
theorem cacheVersions_lifted (os : Os) (started : os.Started) (H : Type) (enc : TypeId × Value → H) (I : Stop.Interp) :
    ReturnsInHanded {} Tryz.checked os 10 .any ((OpenSpec.ofChange Rows.cacheVersionsSpec).preRow enc Tryz.prog Tryz.f10 Rows.cacheVersionsRow.domain false Rows.cacheVersionsRow.laid) (((OpenSpec.ofChange Rows.cacheVersionsSpec).at I).post enc Tryz.prog Tryz.f10 false true false false) := by
  obtain ⟨places, hx⟩ := cacheVersions_reads os enc
  refine returnsInHanded_of_row (C := Tryz.checked) (s := OpenSpec.ofChange Rows.cacheVersionsSpec) own_knob started (by kernel_rfl) Tryz.func10
    (witness_row_at (enc := enc) (C := Tryz.checked) false (laidWorld os) #[.slice none 0 0] rfl (by kernel_rfl) (by kernel_rfl) (by kernel_rfl)
      (OpenSpec.preRow_of_cond 8 hx (by kernel_rfl) (fun k hk => by cases hk) (by kernel_rfl) (cacheVersions_met os))) ?_
  intro W base args ds gs before hval hW _ _ _ hL _ _
  exact cacheVersions_contract H enc W base args ds gs before hval hW hL

theorem cacheVersions_said : Rows.CacheVersionsSaid :=
  OpenClaim.holds_of_cond 10 Tryz.f10 rfl rfl rfl rfl rfl rfl rfl ⟨rfl, rfl, rfl, rfl, rfl⟩ rfl rfl rfl rfl rfl (by kernel_rfl) Tryz.func10 cacheVersions_closed
    (of_decide_eq_true (by kernel_rfl)) (by unfold Func.isWrapper; first | (rw [if_pos (by decide +kernel)]; kernel_rfl) | (rw [if_neg (by decide +kernel)]; exact ⟨rfl, rfl⟩))
    (fun os started H enc _ I => by rw [OpenClaim.pre_eq_preRow]; exact cacheVersions_lifted os started H enc I)
theorem cacheVersions_plain (f : FuncId) (fn : Func) (hf : Tryz.pinned.checked.prog.funcNamed "escutcheon/escutcheonlaw21.CacheVersions" = some f) (hfn : Tryz.pinned.checked.prog.funcs[f]? = some fn) :
    true = Tryz.pinned.checked.prog.looks [] ∧ ∀ (j : Nat) t, fn.params[j]? = some t → Tryz.pinned.checked.prog.wantsStandIn t = false := by
  obtain rfl : f = 10 := Option.some.inj ((show Tryz.prog.funcNamed "escutcheon/escutcheonlaw21.CacheVersions" = some 10 by kernel_rfl).symm.trans hf) |>.symm
  obtain rfl : fn = Tryz.f10 := (Option.some.inj (Tryz.func10.symm.trans hfn)).symm
  refine ⟨by kernel_rfl, fun j t ht => ?_⟩
  rw [Tryz.params10] at ht
  have hm := Array.mem_of_getElem? ht
  have hall : (#[52] : Array TypeId).toList.all (fun t => !Tryz.prog.wantsStandIn t) = true := by kernel_rfl
  have := List.all_eq_true.1 hall t (by simpa using hm)
  show Tryz.prog.wantsStandIn t = false
  simpa using this
theorem cacheVersions_card : Rows.CacheVersionsCardSaid :=
  Claim7.holds_tied_plain_at .later [] _ _ _ _ cacheVersions_said (fun _ h => by cases h) (by kernel_rfl) (fun _ h => by cases h) cacheVersions_row_tie rfl ⟨rfl, rfl⟩ (start_main.trans (congrArg (fun s => some (true, s)) start_sum)) rfl cacheVersions_plain (by kernel_rfl)
#print axioms cacheVersions_card
end Go.Proofs.YtehpafebpgndeaaGreatDoor
