/-
  Package cache's walks, the ninth part: Number; package command's Right.
-/
import Derived.Test.YtehpafebpgndeaaGreatDoorCacheA
import Derived.Test.YtehpafebpgndeaaGreatDoorShelf
namespace Go.Proofs.YtehpafebpgndeaaGreatDoor
set_option linter.unusedVariables false
set_option linter.unusedSimpArgs false
set_option linter.unnecessarySimpa false
open Go.RowKit
set_option maxRecDepth 100000

theorem atoiAll_range {l : List UInt8} {v : Int} (h : Lib.atoiAll l = .ok v) : -9223372036854775808 ≤ v ∧ v ≤ 9223372036854775807 := by
  unfold Lib.atoiAll at h
  split at h
  · cases h
  · simp only at h
    split at h
    · cases h
    · cases h
    · split at h
      · cases h
      · split at h
        · cases h
        · injection h with h
          split at h <;> omega
theorem bytesWorld_kept {w w' : World} {n : Nat} (h : w' = w ∨ ∃ t, w' = Lib.bytesWorld w n t) : Kept (fun _ => False) w w' := by
  rcases h with rfl | ⟨t, rfl⟩
  · exact Kept.refl _ _
  · exact ⟨rfl, rfl, rfl, by rw [Lib.bytesWorld_size]; omega, fun k hk _ => Lib.bytesWorld_at_old w _ t k hk⟩

/-- What Number answers. -/
def numV (o : Option Int) : Value := .tuple #[.int .i64 (o.getD 0), .bool o.isSome]
theorem cnum (s : ByteArray) (w : World) (hL : Laid w) (hs : s.size ≤ 1000000) :
    Calls Tryz.prog 22 #[.string s] w fun e w' => e = .returned (numV (numberB s)) ∧ Kept (fun _ => False) w w' := by
  have bad : ∀ (W : World), Lib.atoiAll s.data.toList = .«syntax» ∨ Lib.atoiAll s.data.toList = .range → numberB s = none := by
    intro _ h
    unfold numberB
    rcases h with h | h <;> rw [h]
  cases hA : Lib.atoiAll s.data.toList with
  | ok v =>
    obtain ⟨hv0, hv1⟩ := atoiAll_range hA
    have HA := Lib.hid (Tryz.strconv_Atoi_ok s (by omega) v hA w)
    have hI := fun (W : World) (hk : Kept (fun _ => False) w W) => Tryz.strconv_Itoa v hv0 hv1 W (hL.kept hk (fun _ _ h => h)).tab
    have HI := Lib.hid hI
    have hnb : numberB s = if itoaB v = s ∧ -1000000000000 ≤ v ∧ v ≤ 1000000000000 then some v else none := by unfold numberB; rw [hA]
    have hbe : (Lib.itoa v == s.toList) = decide (itoaB v = s) := by
      have h := bytes_beq (itoaB v) s
      rw [ByteArray.toList_eq (itoaB v)] at h
      exact h
    have HNB := Lib.hid hnb
    clear hA hI hL bad hnb
    go_enter Tryz.func22, Tryz.ntmps22
    go_wp2_with fail
    refine HA.out.mono ?_
    rintro e w1 ⟨rfl, hw1⟩
    have HK1 := Lib.hid (bytesWorld_kept hw1)
    clear hw1
    go_wp2_with fail
    refine (HI.out w1 HK1.out).mono ?_
    rintro e w2 ⟨rfl, k, os, hw2⟩
    have HK2 := Lib.hid (HK1.out.trans (hw2 ▸ ((Kept.refl (fun _ => False) w1).drewN k).trans (grow_kept _ _) (fun _ _ h => h)) (fun _ _ h => h))
    clear hw2
    by_cases h1 : itoaB v = s
    · rw [decide_eq_true h1] at hbe
      by_cases h2 : -1000000000000 ≤ v
      · by_cases h3 : v ≤ 1000000000000
        · have HN : Hid (numberB s = some v) := Lib.hid (by rw [HNB.out, if_pos ⟨h1, h2, h3⟩])
          clear h1
          go_wp2_with fail
          go_ret2
          rw [HN.out]
          exact ⟨rfl, HK2.out⟩
        · have HN : Hid (numberB s = none) := Lib.hid (by rw [HNB.out, if_neg (fun h => h3 h.2.2)])
          clear h1
          go_wp2_with fail
          go_ret2
          rw [HN.out]
          exact ⟨rfl, HK2.out⟩
      · have HN : Hid (numberB s = none) := Lib.hid (by rw [HNB.out, if_neg (fun h => h2 h.2.1)])
        clear h1
        go_wp2_with fail
        go_ret2
        rw [HN.out]
        exact ⟨rfl, HK2.out⟩
    · have HN : Hid (numberB s = none) := Lib.hid (by rw [HNB.out, if_neg (fun h => h1 h.1)])
      rw [decide_eq_false h1] at hbe
      clear h1
      go_wp2_with fail
      go_ret2
      rw [HN.out]
      exact ⟨rfl, HK2.out⟩
  | «syntax» =>
    obtain ⟨tp, p, h1⟩ := hL.syn
    have HA := Lib.hid (Tryz.strconv_Atoi_syntax_var s (by omega) hA tp p w h1)
    have HN := Lib.hid (bad w (.inl hA))
    clear hA bad hL h1
    go_enter Tryz.func22, Tryz.ntmps22
    go_wp2_with fail
    refine HA.out.mono ?_
    rintro e w1 ⟨N, rfl, _, _, hb⟩
    have HK := Lib.hid (Kept.of_below (S := fun _ => False) hb)
    clear hb
    go_wp2_with fail
    go_ret2
    rw [HN.out]
    exact ⟨rfl, HK.out⟩
  | range =>
    obtain ⟨tp, p, h1⟩ := hL.rng
    have HA := Lib.hid (Tryz.strconv_Atoi_range_var s (by omega) hA tp p w h1)
    have HN := Lib.hid (bad w (.inr hA))
    clear hA bad hL h1
    generalize Lib.atoiSat s.data.toList = sat at *
    go_enter Tryz.func22, Tryz.ntmps22
    go_wp2_with fail
    refine HA.out.mono ?_
    rintro e w1 ⟨N, rfl, _, _, hb⟩
    have HK := Lib.hid (Kept.of_below (S := fun _ => False) hb)
    clear hb
    go_wp2_with fail
    go_ret2
    rw [HN.out]
    exact ⟨rfl, HK.out⟩

/-! Package command's Right. -/
def classC (op : Int) : Int := if op = 1 ∨ op = 10 ∨ op = 11 then 1 else if 2 ≤ op ∧ op ≤ 9 then 2 else if op = 12 ∨ op = 13 then 3 else 0
theorem class_any (op : Int) (w : World) : Calls Tryz.prog 99 #[.int .i64 op] w fun e w' => e = .returned (.int .i64 (classC op)) ∧ w = w' := by
  by_cases ho : 1 ≤ op ∧ op ≤ 13
  · obtain ⟨h1, h2⟩ := ho
    have h : op = 1 ∨ op = 2 ∨ op = 3 ∨ op = 4 ∨ op = 5 ∨ op = 6 ∨ op = 7 ∨ op = 8 ∨ op = 9 ∨ op = 10 ∨ op = 11 ∨ op = 12 ∨ op = 13 := by omega
    rcases h with rfl | rfl | rfl | rfl | rfl | rfl | rfl | rfl | rfl | rfl | rfl | rfl | rfl
    all_goals
      clear h1 h2
      go_enter Tryz.func99, Tryz.ntmps99
      go_wp2_with fail
      go_ret
      exact ⟨by unfold classC; rfl, rfl⟩
  · have hc : classC op = 0 := by
      unfold classC
      rw [if_neg (by omega), if_neg (by omega), if_neg (by omega)]
    rw [hc]
    have e1 : (op == 1) = false := by simp; omega
    have e2 : (op == 2) = false := by simp; omega
    have e3 : (op == 3) = false := by simp; omega
    have e4 : (op == 4) = false := by simp; omega
    have e5 : (op == 5) = false := by simp; omega
    have e6 : (op == 6) = false := by simp; omega
    have e7 : (op == 7) = false := by simp; omega
    have e8 : (op == 8) = false := by simp; omega
    have e9 : (op == 9) = false := by simp; omega
    have e10 : (op == 10) = false := by simp; omega
    have e11 : (op == 11) = false := by simp; omega
    have e12 : (op == 12) = false := by simp; omega
    have e13 : (op == 13) = false := by simp; omega
    go_enter Tryz.func99, Tryz.ntmps99
    go_wp2_with fail
    go_ret
    exact ⟨rfl, rfl⟩

theorem key_any (op : Int) (k : ByteArray) (w : World) (hk : k.size ≤ 1000000000) : Calls Tryz.prog 100 #[.int .i64 op, .string k] w fun e w' => e = .returned (.bool (decide (keyOk op k))) ∧ w = w' := by
  by_cases h1 : op = 11
  · have hd : decide (keyOk op k) = decide ((k.size : Int) ≤ 60) := by
      rw [Bool.eq_iff_iff, decide_eq_true_iff, decide_eq_true_iff]
      unfold keyOk
      rw [if_pos h1]
      omega
    rw [hd]
    subst h1
    clear hd
    go_enter Tryz.func100, Tryz.ntmps100
    go_wp2_with fail
    go_ret
    exact ⟨rfl, rfl⟩
  · have e1 : (op == 11) = false := by simp; omega
    by_cases h2 : op = 12 ∨ op = 13
    · have hd : decide (keyOk op k) = k.toList.isEmpty := by
        rw [Bool.eq_iff_iff, decide_eq_true_iff, List.isEmpty_iff, ByteArray.toList_eq]
        unfold keyOk
        rw [if_neg h1, if_pos h2]
        constructor
        · intro h
          exact List.eq_nil_of_length_eq_zero h
        · intro h
          exact congrArg List.length h
      rw [hd]
      clear hd
      rcases h2 with rfl | rfl
      all_goals
        clear e1 h1
        go_enter Tryz.func100, Tryz.ntmps100
        go_wp2_with fail
        go_ret
        exact ⟨rfl, rfl⟩
    · have e2 : (op == 12) = false := by simp; omega
      have e3 : (op == 13) = false := by simp; omega
      have hd : decide (keyOk op k) = (decide (1 ≤ (k.size : Int)) && decide ((k.size : Int) ≤ 60)) := by
        rw [Bool.eq_iff_iff, Bool.and_eq_true, decide_eq_true_iff, decide_eq_true_iff, decide_eq_true_iff]
        unfold keyOk
        rw [if_neg h1, if_neg h2]
        omega
      rw [hd]
      clear hd
      by_cases h3 : 1 ≤ (k.size : Int)
      · rw [decide_eq_true h3, Bool.true_and]
        go_enter Tryz.func100, Tryz.ntmps100
        go_wp2_with fail
        go_ret
        exact ⟨rfl, rfl⟩
      · rw [decide_eq_false h3, Bool.false_and]
        go_enter Tryz.func100, Tryz.ntmps100
        go_wp2_with fail
        go_ret
        exact ⟨rfl, rfl⟩

def numOk (num ver : Int) : Prop := -1000000000000 ≤ num ∧ num ≤ 1000000000000 ∧ 0 ≤ ver ∧ ver ≤ 1000000000000
instance (num ver : Int) : Decidable (numOk num ver) := by unfold numOk; infer_instance
theorem numbers_any (num ver : Int) (w : World) : Calls Tryz.prog 101 #[.int .i64 num, .int .i64 ver] w fun e w' => e = .returned (.bool (decide (numOk num ver))) ∧ w = w' := by
  by_cases h1 : -1000000000000 ≤ num
  · by_cases h2 : num ≤ 1000000000000
    · by_cases h3 : 0 ≤ ver
      · have h : decide (numOk num ver) = decide (ver ≤ 1000000000000) := by
          rw [Bool.eq_iff_iff, decide_eq_true_iff, decide_eq_true_iff]
          exact ⟨fun h => h.2.2.2, fun h => ⟨h1, h2, h3, h⟩⟩
        rw [h]
        clear h
        go_enter Tryz.func101, Tryz.ntmps101
        go_wp2_with fail
        go_ret
        exact ⟨rfl, rfl⟩
      · rw [decide_eq_false (fun h : numOk num ver => h3 h.2.2.1)]
        go_enter Tryz.func101, Tryz.ntmps101
        go_wp2_with fail
        go_ret
        exact ⟨rfl, rfl⟩
    · rw [decide_eq_false (fun h : numOk num ver => h2 h.2.1)]
      go_enter Tryz.func101, Tryz.ntmps101
      go_wp2_with fail
      go_ret
      exact ⟨rfl, rfl⟩
  · rw [decide_eq_false (fun h : numOk num ver => h1 h.1)]
    go_enter Tryz.func101, Tryz.ntmps101
    go_wp2_with fail
    go_ret
    exact ⟨rfl, rfl⟩

/-- A command. -/
def cmA (x : Cm) : Array Value := #[.int .i64 x.op, .string x.key, .string x.val, .int .i64 x.num, .int .i64 x.ver]
theorem right_any (x : Cm) (w : World) (hk : x.key.size ≤ 1000000000) (hv : x.val.size ≤ 1000000000) :
    Calls Tryz.prog 49 #[.agg #[.int .i64 x.op, .string x.key, .string x.val, .int .i64 x.num, .int .i64 x.ver]] w fun e w' => e = .returned (.bool (decide (rightC x))) ∧ Kept (fun _ => False) w w' := by
  have hcl : 0 < classC x.op ↔ 1 ≤ x.op ∧ x.op ≤ 13 := by
    unfold classC
    constructor
    · intro h
      split at h
      · omega
      · split at h
        · omega
        · split at h
          · omega
          · omega
    · intro h
      split
      · omega
      · split
        · omega
        · split
          · omega
          · omega
  have hr : rightC x ↔ 0 < classC x.op ∧ keyOk x.op x.key ∧ (x.val.size : Int) ≤ 500 ∧ numOk x.num x.ver := by
    rw [hcl]
    unfold rightC numOk
    constructor
    · rintro ⟨a, b, c, d, e⟩
      exact ⟨⟨a, b⟩, c, by omega, e⟩
    · rintro ⟨⟨a, b⟩, c, d, e⟩
      exact ⟨a, b, c, by omega, e⟩
  have HR := Lib.hid hr
  have hK := (Kept.refl (fun _ => False) w).alloc (.cells #[.int .i64 x.op, .string x.key, .string x.val, .int .i64 x.num, .int .i64 x.ver] 32)
  have HK := Lib.hid hK
  have HC := Lib.hid (fun W => class_any x.op W)
  have HY := Lib.hid (fun W => key_any x.op x.key W hk)
  have HN := Lib.hid (fun W => numbers_any x.num x.ver W)
  clear hcl hr hK
  by_cases h1 : 0 < classC x.op
  · by_cases h2 : keyOk x.op x.key
    · have hd2 := decide_eq_true h2
      by_cases h3 : (x.val.size : Int) ≤ 500
      · have hf : decide (rightC x) = decide (numOk x.num x.ver) := by
          rw [Bool.eq_iff_iff, decide_eq_true_iff, decide_eq_true_iff, HR.out]
          exact ⟨fun h => h.2.2.2, fun h => ⟨h1, h2, h3, h⟩⟩
        have HF := Lib.hid hf
        clear hf h2
        go_enter Tryz.func49, Tryz.ntmps49
        go_wp2_with fail
        refine (HC.out _).mono ?_
        rintro e w1 ⟨rfl, rfl⟩
        go_wp2_with fail
        refine (HY.out _).mono ?_
        rintro e w1 ⟨rfl, rfl⟩
        rw [hd2]
        go_wp2_with fail
        refine (HN.out _).mono ?_
        rintro e w1 ⟨rfl, rfl⟩
        go_wp2_with fail
        go_ret
        rw [HF.out]
        exact ⟨rfl, HK.out⟩
      · have HF := Lib.hid (decide_eq_false (fun h => h3 (HR.out.1 h).2.2.1) : decide (rightC x) = false)
        clear h2
        go_enter Tryz.func49, Tryz.ntmps49
        go_wp2_with fail
        refine (HC.out _).mono ?_
        rintro e w1 ⟨rfl, rfl⟩
        go_wp2_with fail
        refine (HY.out _).mono ?_
        rintro e w1 ⟨rfl, rfl⟩
        rw [hd2]
        go_wp2_with fail
        go_ret
        rw [HF.out]
        exact ⟨rfl, HK.out⟩
    · have hd2 := decide_eq_false h2
      have HF := Lib.hid (decide_eq_false (fun h => h2 (HR.out.1 h).2.1) : decide (rightC x) = false)
      clear h2
      go_enter Tryz.func49, Tryz.ntmps49
      go_wp2_with fail
      refine (HC.out _).mono ?_
      rintro e w1 ⟨rfl, rfl⟩
      go_wp2_with fail
      refine (HY.out _).mono ?_
      rintro e w1 ⟨rfl, rfl⟩
      rw [hd2]
      go_wp2_with fail
      go_ret
      rw [HF.out]
      exact ⟨rfl, HK.out⟩
  · have HF := Lib.hid (decide_eq_false (fun h => h1 (HR.out.1 h).1) : decide (rightC x) = false)
    go_enter Tryz.func49, Tryz.ntmps49
    go_wp2_with fail
    refine (HC.out _).mono ?_
    rintro e w1 ⟨rfl, rfl⟩
    go_wp2_with fail
    go_ret
    rw [HF.out]
    exact ⟨rfl, HK.out⟩
end Go.Proofs.YtehpafebpgndeaaGreatDoor
