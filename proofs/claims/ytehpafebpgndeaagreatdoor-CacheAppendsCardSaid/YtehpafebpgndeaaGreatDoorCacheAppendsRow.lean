/-
  CacheAppends holds: what is put behind a value is there; what would be too long is refused, and nothing is changed. No condition beyond the given statement itself.
-/
import Derived.Test.YtehpafebpgndeaaGreatDoorCacheAppends
import Derived.Test.YtehpafebpgndeaaGreatDoorArgs
import Derived.Test.YtehpafebpgndeaaGreatDoorCards
import Derived.Test.YtehpafebpgndeaaGreatDoorTie
import Derived.Test.YtehpafebpgndeaaGreatDoorCacheWorld
import Derived.Test.YtehpafebpgndeaaGreatDoorRow
import Derived.Test.YtehpafebpgndeaaGreatDoorCacheAppendsJoin
import Derived.Deep.DeepHandedRow
namespace Go.Proofs.YtehpafebpgndeaaGreatDoor
set_option linter.unusedVariables false
set_option linter.unusedSimpArgs false
set_option linter.unnecessarySimpa false
open Go.ChangeShapes Go.WideShapes Go.ChangeAt Go.RowKit
open Go.ChangeMaps (open_string shut_string)

set_option linter.unusedVariables false
set_option maxRecDepth 100000 in
theorem cacheAppends_contract (H : Type) (enc : TypeId × Value → H) (W : World) (base : Nat) (args : Array Value) (ds gs : List (DataW H)) (before : List MemPlace)
    (hval0 : ∀ (j : Nat) t v, Tryz.f9.params[j]? = some t → args[j]? = some v → Value.okWide Tryz.prog W .any base t v)
    (hW : DataW.Whole enc Tryz.prog Tryz.f9.params.toList Rows.cacheAppendsSpec.vars false W args.toList ds gs before) (hL : laidMetH Tryz.prog Rows.cacheAppendsRow.laid W) :
    Calls Tryz.prog 9 args W fun e W' => ∃ v, e = .returned v ∧ Rows.cacheAppendsSpec.post enc Tryz.prog Tryz.f9 false true false false W args v W' := by
  have hval : ∀ (j : Nat) t v, Tryz.f9.params[j]? = some t → args[j]? = some v → Value.okWide Tryz.prog W .any base t v := hval0
  have hW' := hW
  obtain ⟨p, q, hA0, hV, rfl, hfz, hnd⟩ := hW
  have hA : DataW.TrodAll enc Tryz.prog W 0 (fun _ => true) true Tryz.f9.params.toList args.toList ds p := hA0
  rw [Tryz.params9] at hA hval
  obtain ⟨v0, vs0, d0, ds0, p0, q0, hargs, rfl, rfl, h0, r0⟩ := trodAll_cons hA
  obtain ⟨v1, vs1, d1, ds1, p1, q1, rfl, rfl, rfl, h1, r1⟩ := trodAll_cons r0
  obtain ⟨rfl, rfl, rfl⟩ := trodAll_nil r1
  obtain rfl : args = #[v0, v1] := by cases args; simp_all
  obtain ⟨a0, rfl, rfl, rfl, w0⟩ := open_string Tryz.underlying9 (hval 0 9 v0 rfl rfl) h0
  obtain ⟨ao1, len1, cap1, rfl⟩ := okWide_slice Tryz.underlying34 (hval 1 34 v1 rfl rfl)
  obtain ⟨l1, rfl, rd1, b1⟩ := open_strings_rd Tryz.underlying34 Tryz.underlying9 (by kernel_rfl) h1
  clear hA0 hval0 hval
  refine (cacheAppends_walk a0 l1 ao1 cap1 W (laid_of hL) rd1).mono fun e W' ⟨he, hg⟩ => ?_
  subst he
  exact ⟨_, rfl, law_post hW' rfl rfl rfl (by kernel_rfl) (hg.below (fun _ _ h => h))⟩

theorem cacheAppends_met (os : Os) : laidMet Tryz.prog Rows.cacheAppendsRow.laid ((laidWorld os).forCall (fun _ _ => 0) ⟨#[], #[.string ⟨#[]⟩, .slice none 0 0], []⟩).memory :=
  laidMet_of_run' 80 (by kernel_rfl) (by kernel_rfl)
theorem cacheAppends_reads (os : Os) {H : Type} (enc : TypeId × Value → H) : ∃ places, DataW.whole enc Tryz.prog ((laidWorld os).forCall (fun _ _ => 0) ⟨#[], #[.string ⟨#[]⟩, .slice none 0 0], []⟩).memory Tryz.f9.params.toList Rows.cacheAppendsSpec.vars false (#[.string ⟨#[]⟩, .slice none 0 0] : Array Value).toList 8 = some ([.lit (.string []), .nil], [], places) :=
  ⟨[], by kernel_rfl⟩
set_option maxRecDepth 100000 in
theorem cacheAppends_lifted (os : Os) (started : os.Started) (H : Type) (enc : TypeId × Value → H) (I : Stop.Interp) :
    ReturnsInHanded {} Tryz.checked os 9 .any ((OpenSpec.ofChange Rows.cacheAppendsSpec).preRow enc Tryz.prog Tryz.f9 Rows.cacheAppendsRow.domain false Rows.cacheAppendsRow.laid) (((OpenSpec.ofChange Rows.cacheAppendsSpec).at I).post enc Tryz.prog Tryz.f9 false true false false) := by
  obtain ⟨places, hx⟩ := cacheAppends_reads os enc
  refine returnsInHanded_of_row (C := Tryz.checked) (s := OpenSpec.ofChange Rows.cacheAppendsSpec) own_knob started (by kernel_rfl) Tryz.func9
    (witness_row_at (enc := enc) (C := Tryz.checked) false (laidWorld os) #[.string ⟨#[]⟩, .slice none 0 0] rfl (by kernel_rfl) (by kernel_rfl) (by kernel_rfl)
      (OpenSpec.preRow_of_cond 8 hx (by kernel_rfl) (fun k hk => by cases hk) (by kernel_rfl) (cacheAppends_met os))) ?_
  intro W base args ds gs before hval hW _ _ _ hL _ _
  exact cacheAppends_contract H enc W base args ds gs before hval hW hL

theorem cacheAppends_said : Rows.CacheAppendsSaid :=
  OpenClaim.holds_of_cond 9 Tryz.f9 rfl rfl rfl rfl rfl rfl rfl ⟨rfl, rfl, rfl, rfl, rfl⟩ rfl rfl rfl rfl rfl (by kernel_rfl) Tryz.func9 cacheAppends_closed
    (of_decide_eq_true (by kernel_rfl)) (by unfold Func.isWrapper; first | (rw [if_pos (by decide +kernel)]; kernel_rfl) | (rw [if_neg (by decide +kernel)]; exact ⟨rfl, rfl⟩))
    (fun os started H enc _ I => by rw [OpenClaim.pre_eq_preRow]; exact cacheAppends_lifted os started H enc I)
theorem cacheAppends_plain (f : FuncId) (fn : Func) (hf : Tryz.pinned.checked.prog.funcNamed "escutcheon/escutcheonlaw21.CacheAppends" = some f) (hfn : Tryz.pinned.checked.prog.funcs[f]? = some fn) :
    true = Tryz.pinned.checked.prog.looks [] ∧ ∀ (j : Nat) t, fn.params[j]? = some t → Tryz.pinned.checked.prog.wantsStandIn t = false := by
  obtain rfl : f = 9 := Option.some.inj ((show Tryz.prog.funcNamed "escutcheon/escutcheonlaw21.CacheAppends" = some 9 by kernel_rfl).symm.trans hf) |>.symm
  obtain rfl : fn = Tryz.f9 := (Option.some.inj (Tryz.func9.symm.trans hfn)).symm
  refine ⟨by kernel_rfl, fun j t ht => ?_⟩
  rw [Tryz.params9] at ht
  have hm := Array.mem_of_getElem? ht
  have hall : (#[9, 34] : Array TypeId).toList.all (fun t => !Tryz.prog.wantsStandIn t) = true := by kernel_rfl
  have := List.all_eq_true.1 hall t (by simpa using hm)
  show Tryz.prog.wantsStandIn t = false
  simpa using this
theorem cacheAppends_card : Rows.CacheAppendsCardSaid :=
  Claim7.holds_tied_plain_at .later [] _ _ _ _ cacheAppends_said (fun _ h => by cases h) (by kernel_rfl) (fun _ h => by cases h) cacheAppends_row_tie rfl ⟨rfl, rfl⟩ (start_main.trans (congrArg (fun s => some (true, s)) start_sum)) rfl cacheAppends_plain (by kernel_rfl)
#print axioms cacheAppends_card
end Go.Proofs.YtehpafebpgndeaaGreatDoor
