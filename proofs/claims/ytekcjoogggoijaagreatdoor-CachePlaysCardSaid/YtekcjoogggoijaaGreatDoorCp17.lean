/-
  Package cache's walks, the tenth part: behind, incr, set.
-/
import Derived.Test.YtekcjoogggoijaaGreatDoorCp09
import Derived.Test.YtekcjoogggoijaaGreatDoorShelf
import Derived.Test.YtekcjoogggoijaaGreatDoorCp16
set_option linter.unusedVariables false
set_option linter.unusedSimpArgs false
set_option linter.unnecessarySimpa false
namespace Go.Proofs.YtekcjoogggoijaaGreatDoor
open Go.RowKit
set_option maxRecDepth 100000

theorem atoiAll_range {l : List UInt8} {v : Int} (h : Lib.atoiAll l = .ok v) : -9223372036854775808 ≤ v ∧ v ≤ 9223372036854775807 := by
  unfold Lib.atoiAll at h
  split at h
  · cases h
  · simp only at h
    split at h
    · cases h
    · cases h
    · split at h
      · cases h
      · split at h
        · cases h
        · injection h with h
          split at h <;> omega
theorem bytesWorld_kept {w w' : World} {n : Nat} (h : w' = w ∨ ∃ t, w' = Lib.bytesWorld w n t) : Kept (fun _ => False) w w' := by
  rcases h with rfl | ⟨t, rfl⟩
  · exact Kept.refl _ _
  · exact ⟨rfl, rfl, rfl, by rw [Lib.bytesWorld_size]; omega, fun k hk _ => Lib.bytesWorld_at_old w _ t k hk⟩

/-- What Number answers. -/
def numV (o : Option Int) : Value := .tuple #[.int .i64 (o.getD 0), .bool o.isSome]
theorem cnum (s : ByteArray) (w : World) (hL : Laid w) (hs : s.size ≤ 1000000) :
    Calls Tryz.prog 108 #[.string s] w fun e w' => e = .returned (numV (numberB s)) ∧ Kept (fun _ => False) w w' := by
  have bad : ∀ (W : World), Lib.atoiAll s.data.toList = .«syntax» ∨ Lib.atoiAll s.data.toList = .range → numberB s = none := by
    intro _ h
    unfold numberB
    rcases h with h | h <;> rw [h]
  cases hA : Lib.atoiAll s.data.toList with
  | ok v =>
    obtain ⟨hv0, hv1⟩ := atoiAll_range hA
    have HA := Lib.hid (Tryz.strconv_Atoi_ok s (by omega) v hA w)
    have hI := fun (W : World) (hk : Kept (fun _ => False) w W) => Tryz.strconv_Itoa v hv0 hv1 W (hL.kept hk (fun _ _ h => h)).tab
    have HI := Lib.hid hI
    have hnb : numberB s = if itoaB v = s ∧ -1000000000000 ≤ v ∧ v ≤ 1000000000000 then some v else none := by unfold numberB; rw [hA]
    have hbe : (Lib.itoa v == s.toList) = decide (itoaB v = s) := by
      have h := bytes_beq (itoaB v) s
      rw [ByteArray.toList_eq (itoaB v)] at h
      exact h
    have HNB := Lib.hid hnb
    clear hA hI hL bad hnb
    go_enter Tryz.func108, Tryz.ntmps108
    go_wp2_with fail
    refine HA.out.mono ?_
    rintro e w1 ⟨rfl, hw1⟩
    have HK1 := Lib.hid (bytesWorld_kept hw1)
    clear hw1
    go_wp2_with fail
    refine (HI.out w1 HK1.out).mono ?_
    rintro e w2 ⟨rfl, k, os, hw2⟩
    have HK2 := Lib.hid (HK1.out.trans (hw2 ▸ ((Kept.refl (fun _ => False) w1).drewN k).trans (grow_kept _ _) (fun _ _ h => h)) (fun _ _ h => h))
    clear hw2
    by_cases h1 : itoaB v = s
    · rw [decide_eq_true h1] at hbe
      by_cases h2 : -1000000000000 ≤ v
      · by_cases h3 : v ≤ 1000000000000
        · have HN : Hid (numberB s = some v) := Lib.hid (by rw [HNB.out, if_pos ⟨h1, h2, h3⟩])
          clear h1
          go_wp2_with fail
          go_ret2
          rw [HN.out]
          exact ⟨rfl, HK2.out⟩
        · have HN : Hid (numberB s = none) := Lib.hid (by rw [HNB.out, if_neg (fun h => h3 h.2.2)])
          clear h1
          go_wp2_with fail
          go_ret2
          rw [HN.out]
          exact ⟨rfl, HK2.out⟩
      · have HN : Hid (numberB s = none) := Lib.hid (by rw [HNB.out, if_neg (fun h => h2 h.2.1)])
        clear h1
        go_wp2_with fail
        go_ret2
        rw [HN.out]
        exact ⟨rfl, HK2.out⟩
    · have HN : Hid (numberB s = none) := Lib.hid (by rw [HNB.out, if_neg (fun h => h1 h.1)])
      rw [decide_eq_false h1] at hbe
      clear h1
      go_wp2_with fail
      go_ret2
      rw [HN.out]
      exact ⟨rfl, HK2.out⟩
  | «syntax» =>
    obtain ⟨tp, p, h1⟩ := hL.syn
    have HA := Lib.hid (Tryz.strconv_Atoi_syntax_var s (by omega) hA tp p w h1)
    have HN := Lib.hid (bad w (.inl hA))
    clear hA bad hL h1
    go_enter Tryz.func108, Tryz.ntmps108
    go_wp2_with fail
    refine HA.out.mono ?_
    rintro e w1 ⟨N, rfl, _, _, hb⟩
    have HK := Lib.hid (Kept.of_below (S := fun _ => False) hb)
    clear hb
    go_wp2_with fail
    go_ret2
    rw [HN.out]
    exact ⟨rfl, HK.out⟩
  | range =>
    obtain ⟨tp, p, h1⟩ := hL.rng
    have HA := Lib.hid (Tryz.strconv_Atoi_range_var s (by omega) hA tp p w h1)
    have HN := Lib.hid (bad w (.inr hA))
    clear hA bad hL h1
    generalize Lib.atoiSat s.data.toList = sat at *
    go_enter Tryz.func108, Tryz.ntmps108
    go_wp2_with fail
    refine HA.out.mono ?_
    rintro e w1 ⟨N, rfl, _, _, hb⟩
    have HK := Lib.hid (Kept.of_below (S := fun _ => False) hb)
    clear hb
    go_wp2_with fail
    go_ret2
    rw [HN.out]
    exact ⟨rfl, HK.out⟩

/-! Package command's Right. -/
def classC (op : Int) : Int := if op = 1 ∨ op = 10 ∨ op = 11 then 1 else if 2 ≤ op ∧ op ≤ 9 then 2 else if op = 12 ∨ op = 13 then 3 else 0
theorem class_any (op : Int) (w : World) : Calls Tryz.prog 74 #[.int .i64 op] w fun e w' => e = .returned (.int .i64 (classC op)) ∧ w = w' := by
  by_cases ho : 1 ≤ op ∧ op ≤ 13
  · obtain ⟨h1, h2⟩ := ho
    have h : op = 1 ∨ op = 2 ∨ op = 3 ∨ op = 4 ∨ op = 5 ∨ op = 6 ∨ op = 7 ∨ op = 8 ∨ op = 9 ∨ op = 10 ∨ op = 11 ∨ op = 12 ∨ op = 13 := by omega
    rcases h with rfl | rfl | rfl | rfl | rfl | rfl | rfl | rfl | rfl | rfl | rfl | rfl | rfl
    all_goals
      clear h1 h2
      go_enter Tryz.func74, Tryz.ntmps74
      go_wp2_with fail
      go_ret
      exact ⟨by unfold classC; rfl, rfl⟩
  · have hc : classC op = 0 := by
      unfold classC
      rw [if_neg (by omega), if_neg (by omega), if_neg (by omega)]
    rw [hc]
    have e1 : (op == 1) = false := by simp; omega
    have e2 : (op == 2) = false := by simp; omega
    have e3 : (op == 3) = false := by simp; omega
    have e4 : (op == 4) = false := by simp; omega
    have e5 : (op == 5) = false := by simp; omega
    have e6 : (op == 6) = false := by simp; omega
    have e7 : (op == 7) = false := by simp; omega
    have e8 : (op == 8) = false := by simp; omega
    have e9 : (op == 9) = false := by simp; omega
    have e10 : (op == 10) = false := by simp; omega
    have e11 : (op == 11) = false := by simp; omega
    have e12 : (op == 12) = false := by simp; omega
    have e13 : (op == 13) = false := by simp; omega
    go_enter Tryz.func74, Tryz.ntmps74
    go_wp2_with fail
    go_ret
    exact ⟨rfl, rfl⟩

theorem key_any (op : Int) (k : ByteArray) (w : World) (hk : k.size ≤ 1000000000) : Calls Tryz.prog 75 #[.int .i64 op, .string k] w fun e w' => e = .returned (.bool (decide (keyOk op k))) ∧ w = w' := by
  by_cases h1 : op = 11
  · have hd : decide (keyOk op k) = decide ((k.size : Int) ≤ 60) := by
      rw [Bool.eq_iff_iff, decide_eq_true_iff, decide_eq_true_iff]
      unfold keyOk
      rw [if_pos h1]
      omega
    rw [hd]
    subst h1
    clear hd
    go_enter Tryz.func75, Tryz.ntmps75
    go_wp2_with fail
    go_ret
    exact ⟨rfl, rfl⟩
  · have e1 : (op == 11) = false := by simp; omega
    by_cases h2 : op = 12 ∨ op = 13
    · have hd : decide (keyOk op k) = k.toList.isEmpty := by
        rw [Bool.eq_iff_iff, decide_eq_true_iff, List.isEmpty_iff, ByteArray.toList_eq]
        unfold keyOk
        rw [if_neg h1, if_pos h2]
        constructor
        · intro h
          exact List.eq_nil_of_length_eq_zero h
        · intro h
          exact congrArg List.length h
      rw [hd]
      clear hd
      rcases h2 with rfl | rfl
      all_goals
        clear e1 h1
        go_enter Tryz.func75, Tryz.ntmps75
        go_wp2_with fail
        go_ret
        exact ⟨rfl, rfl⟩
    · have e2 : (op == 12) = false := by simp; omega
      have e3 : (op == 13) = false := by simp; omega
      have hd : decide (keyOk op k) = (decide (1 ≤ (k.size : Int)) && decide ((k.size : Int) ≤ 60)) := by
        rw [Bool.eq_iff_iff, Bool.and_eq_true, decide_eq_true_iff, decide_eq_true_iff, decide_eq_true_iff]
        unfold keyOk
        rw [if_neg h1, if_neg h2]
        omega
      rw [hd]
      clear hd
      by_cases h3 : 1 ≤ (k.size : Int)
      · rw [decide_eq_true h3, Bool.true_and]
        go_enter Tryz.func75, Tryz.ntmps75
        go_wp2_with fail
        go_ret
        exact ⟨rfl, rfl⟩
      · rw [decide_eq_false h3, Bool.false_and]
        go_enter Tryz.func75, Tryz.ntmps75
        go_wp2_with fail
        go_ret
        exact ⟨rfl, rfl⟩

def numOk (num ver : Int) : Prop := -1000000000000 ≤ num ∧ num ≤ 1000000000000 ∧ 0 ≤ ver ∧ ver ≤ 1000000000000
instance (num ver : Int) : Decidable (numOk num ver) := by unfold numOk; infer_instance
theorem numbers_any (num ver : Int) (w : World) : Calls Tryz.prog 76 #[.int .i64 num, .int .i64 ver] w fun e w' => e = .returned (.bool (decide (numOk num ver))) ∧ w = w' := by
  by_cases h1 : -1000000000000 ≤ num
  · by_cases h2 : num ≤ 1000000000000
    · by_cases h3 : 0 ≤ ver
      · have h : decide (numOk num ver) = decide (ver ≤ 1000000000000) := by
          rw [Bool.eq_iff_iff, decide_eq_true_iff, decide_eq_true_iff]
          exact ⟨fun h => h.2.2.2, fun h => ⟨h1, h2, h3, h⟩⟩
        rw [h]
        clear h
        go_enter Tryz.func76, Tryz.ntmps76
        go_wp2_with fail
        go_ret
        exact ⟨rfl, rfl⟩
      · rw [decide_eq_false (fun h : numOk num ver => h3 h.2.2.1)]
        go_enter Tryz.func76, Tryz.ntmps76
        go_wp2_with fail
        go_ret
        exact ⟨rfl, rfl⟩
    · rw [decide_eq_false (fun h : numOk num ver => h2 h.2.1)]
      go_enter Tryz.func76, Tryz.ntmps76
      go_wp2_with fail
      go_ret
      exact ⟨rfl, rfl⟩
  · rw [decide_eq_false (fun h : numOk num ver => h1 h.1)]
    go_enter Tryz.func76, Tryz.ntmps76
    go_wp2_with fail
    go_ret
    exact ⟨rfl, rfl⟩

/-- A command. -/
def cmA (x : Cm) : Array Value := #[.int .i64 x.op, .string x.key, .string x.val, .int .i64 x.num, .int .i64 x.ver]
theorem right_any (x : Cm) (w : World) (hk : x.key.size ≤ 1000000000) (hv : x.val.size ≤ 1000000000) :
    Calls Tryz.prog 25 #[.agg #[.int .i64 x.op, .string x.key, .string x.val, .int .i64 x.num, .int .i64 x.ver]] w fun e w' => e = .returned (.bool (decide (rightC x))) ∧ Kept (fun _ => False) w w' := by
  have hcl : 0 < classC x.op ↔ 1 ≤ x.op ∧ x.op ≤ 13 := by
    unfold classC
    constructor
    · intro h
      split at h
      · omega
      · split at h
        · omega
        · split at h
          · omega
          · omega
    · intro h
      split
      · omega
      · split
        · omega
        · split
          · omega
          · omega
  have hr : rightC x ↔ 0 < classC x.op ∧ keyOk x.op x.key ∧ (x.val.size : Int) ≤ 500 ∧ numOk x.num x.ver := by
    rw [hcl]
    unfold rightC numOk
    constructor
    · rintro ⟨a, b, c, d, e⟩
      exact ⟨⟨a, b⟩, c, by omega, e⟩
    · rintro ⟨⟨a, b⟩, c, d, e⟩
      exact ⟨a, b, c, by omega, e⟩
  have HR := Lib.hid hr
  have hK := (Kept.refl (fun _ => False) w).alloc (.cells #[.int .i64 x.op, .string x.key, .string x.val, .int .i64 x.num, .int .i64 x.ver] 39)
  have HK := Lib.hid hK
  have HC := Lib.hid (fun W => class_any x.op W)
  have HY := Lib.hid (fun W => key_any x.op x.key W hk)
  have HN := Lib.hid (fun W => numbers_any x.num x.ver W)
  clear hcl hr hK
  by_cases h1 : 0 < classC x.op
  · by_cases h2 : keyOk x.op x.key
    · have hd2 := decide_eq_true h2
      by_cases h3 : (x.val.size : Int) ≤ 500
      · have hf : decide (rightC x) = decide (numOk x.num x.ver) := by
          rw [Bool.eq_iff_iff, decide_eq_true_iff, decide_eq_true_iff, HR.out]
          exact ⟨fun h => h.2.2.2, fun h => ⟨h1, h2, h3, h⟩⟩
        have HF := Lib.hid hf
        clear hf h2
        go_enter Tryz.func25, Tryz.ntmps25
        go_wp2_with fail
        refine (HC.out _).mono ?_
        rintro e w1 ⟨rfl, rfl⟩
        go_wp2_with fail
        refine (HY.out _).mono ?_
        rintro e w1 ⟨rfl, rfl⟩
        rw [hd2]
        go_wp2_with fail
        refine (HN.out _).mono ?_
        rintro e w1 ⟨rfl, rfl⟩
        go_wp2_with fail
        go_ret
        rw [HF.out]
        exact ⟨rfl, HK.out⟩
      · have HF := Lib.hid (decide_eq_false (fun h => h3 (HR.out.1 h).2.2.1) : decide (rightC x) = false)
        clear h2
        go_enter Tryz.func25, Tryz.ntmps25
        go_wp2_with fail
        refine (HC.out _).mono ?_
        rintro e w1 ⟨rfl, rfl⟩
        go_wp2_with fail
        refine (HY.out _).mono ?_
        rintro e w1 ⟨rfl, rfl⟩
        rw [hd2]
        go_wp2_with fail
        go_ret
        rw [HF.out]
        exact ⟨rfl, HK.out⟩
    · have hd2 := decide_eq_false h2
      have HF := Lib.hid (decide_eq_false (fun h => h2 (HR.out.1 h).2.1) : decide (rightC x) = false)
      clear h2
      go_enter Tryz.func25, Tryz.ntmps25
      go_wp2_with fail
      refine (HC.out _).mono ?_
      rintro e w1 ⟨rfl, rfl⟩
      go_wp2_with fail
      refine (HY.out _).mono ?_
      rintro e w1 ⟨rfl, rfl⟩
      rw [hd2]
      go_wp2_with fail
      go_ret
      rw [HF.out]
      exact ⟨rfl, HK.out⟩
  · have HF := Lib.hid (decide_eq_false (fun h => h1 (HR.out.1 h).1) : decide (rightC x) = false)
    go_enter Tryz.func25, Tryz.ntmps25
    go_wp2_with fail
    refine (HC.out _).mono ?_
    rintro e w1 ⟨rfl, rfl⟩
    go_wp2_with fail
    go_ret
    rw [HF.out]
    exact ⟨rfl, HK.out⟩
end Go.Proofs.YtekcjoogggoijaaGreatDoor
namespace Go.Proofs.YtekcjoogggoijaaGreatDoor
open Go.RowKit
set_option maxRecDepth 100000

/-- What a cache's numbers are between two commands. -/
structure FitC (s : CSt) : Prop where
  b0 : 0 ≤ s.bud
  b1 : s.bud ≤ 1000000
  used : usedL s.U ≤ 1000000
  v0 : 0 ≤ s.ver
  v1 : s.ver ≤ 1000000000
  g0 : 0 ≤ s.gone
  g1 : s.gone ≤ 1000000000
  keyl : ∀ x ∈ s.U, x.key.size ≤ 1000
  vall : ∀ x ∈ s.U, x.val.size ≤ 1000
  til : ∀ x ∈ s.U, 0 ≤ x.til ∧ x.til ≤ 2000000000000
section
variable {w0 wr : World} {c : Nat} {O0 : Nat → Prop} {s : CSt} {B : List (Nat × Obj)}
theorem Bes.write (h : Bes w0 c O0 s B wr) (hf : FitC s) (x : It) (hk : x.key.size ≤ 1000) (hv : x.val.size ≤ 1000) :
    Calls Tryz.prog 78 #[.pointer (some ⟨c, 0, none⟩), .agg #[.string x.key, .string x.val, .int .i64 x.ver, .int .i64 x.til]] wr fun e w' => e = .returned (.agg #[.int .i64 (writeC s x).1.errno, .string (writeC s x).1.val, .int .i64 (writeC s x).1.num, .int .i64 (writeC s x).1.ver, .slice none 0 0]) ∧ Bes w0 c O0 (writeC s x).2 B w' :=
  h.calls fun O' h' => cwrite c O' s x wr h' hf.b0 hf.b1 hf.used hk hv hf.v0 hf.v1 hf.g0 hf.g1 hf.keyl
theorem Bes.laid (h : Bes w0 c O0 s B wr) : Laid wr := by
  obtain ⟨O', h1, _⟩ := h.cs
  exact h1.laid
theorem Bes.ends {p q : Nat × Obj} (h : Bes w0 c O0 s (p :: q :: B) wr) : wr.heap[q.1]? = some q.2 ∧ Steps w0 c O0 s wr := ⟨(h.box q (.tail _ (.head _))).1, h.steps⟩
/-- A function that ends with its reply in the box. -/
theorem Bes.rets {rb : Nat} (h : Bes w0 c O0 s ((rb, zRp) :: B) wr) : ∀ (r : Rp) (kv : Value), (over5 wr rb r kv).heap[rb]? = some (rpO r kv) ∧ Steps w0 c O0 s (over5 wr rb r kv) :=
  fun r kv => ⟨(h.ret r kv).1, (h.ret r kv).2.steps⟩
end


/-- Two boxes of a function's own. -/
theorem two_boxes {w : World} {c : Nat} {O : Nat → Prop} {s : CSt} (h : CS w c O s) (o p : Obj) : Bes w c O s [(w.heap.size + 1, p), (w.heap.size, o)] ((w.alloc o).alloc p) := by
  have h1 := ((Bes.start h).alloc o).alloc p
  rwa [show (w.alloc o).heap.size = w.heap.size + 1 by simp] at h1
theorem writeC_errno (s : CSt) (x : It) : (writeC s x).1.errno = 0 ∨ (writeC s x).1.errno = 13 := by
  by_cases h : s.bud < costI x
  · rw [writeC_large h]; exact .inr rfl
  · rw [writeC_fits h]; exact .inl rfl
theorem writeC_keys (s : CSt) (x : It) : (writeC s x).1.keys = [] := by
  by_cases h : s.bud < costI x
  · rw [writeC_large h]; rfl
  · rw [writeC_fits h]

theorem nDigits_le : ∀ (k u : Nat), u < 10 ^ (k + 1) → Lib.nDigits u ≤ k + 1
  | 0, u, h => by rw [Lib.nDigits_small (by simpa using h)]; exact Nat.le_refl _
  | k + 1, u, h => by
    by_cases hu : u < 10
    · rw [Lib.nDigits_small hu]; omega
    · rw [Lib.nDigits_big hu]
      have := nDigits_le k (u / 10) (by rw [Nat.pow_succ] at h; omega)
      omega
theorem itoaB_size {n : Int} (h0 : -1000000000000 ≤ n) (h1 : n ≤ 1000000000000) : (itoaB n).size ≤ 1000 := by
  show (Lib.itoa n).length ≤ 1000
  unfold Lib.itoa
  split
  · rw [List.length_cons, Lib.decDigits_length]
    have := nDigits_le 13 n.natAbs (by omega)
    omega
  · rw [Lib.decDigits_length]
    have := nDigits_le 13 n.toNat (by omega)
    omega

/-- A reply's value. -/
def rpV (r : Rp) (kv : Value) : Value := .agg #[.int .i64 r.errno, .string r.val, .int .i64 r.num, .int .i64 r.ver, kv]

set_option maxHeartbeats 8000000 in
theorem cbehind (c : Nat) (O : Nat → Prop) (s : CSt) (x : It) (more : ByteArray) (w : World) (h : CS w c O s) (hf : FitC s) (hk : x.key.size ≤ 1000) (hv : x.val.size ≤ 1000) (hm : more.size ≤ 1000) :
    Calls Tryz.prog 83 #[.pointer (some ⟨c, 0, none⟩), .agg #[.string x.key, .string x.val, .int .i64 x.ver, .int .i64 x.til], .string more] w fun e w' => e = .returned (rpV (behindC s x more).1 (.slice none 0 0)) ∧ Steps w c O (behindC s x more).2 w' := by
  have hsz : (x.val ++ more).size = x.val.size + more.size := ByteArray.size_append
  by_cases hbig : 500 < (x.val.size : Int) + more.size
  · have HW : Hid (behindC s x more = (Rp.err 13, s)) := Lib.hid (if_pos hbig)
    have HB := Lib.hid (two_boxes h (itBox ⟨x.key, x.val ++ more, x.ver, x.til⟩) (rpO (Rp.err 13) (.slice none 0 0)))
    clear h hsz
    go_enter Tryz.func83, Tryz.ntmps83
    go_wp2_with fail
    (try simp only [Exit.inBlock, Exit.then])
    refine bodyPost_ret (results_cell_row rfl _ _ (w.heap.size + 1) _ _ _ _ rfl (HB.out.box _ (.head _)).1 Tryz.underlying51 rfl rp_size) rfl ?_
    rw [HW.out]
    exact ⟨rfl, HB.out.steps⟩
  · have HW : Hid (behindC s x more = writeC s ⟨x.key, x.val ++ more, x.ver, x.til⟩) := Lib.hid (if_neg hbig)
    have hB := two_boxes h (itBox ⟨x.key, x.val ++ more, x.ver, x.til⟩) zRp
    have WR := Lib.hid (hB.write hf ⟨x.key, x.val ++ more, x.ver, x.til⟩ hk (by simp only; omega))
    obtain ⟨rb, hrb⟩ : ∃ rb, rb = w.heap.size + 1 := ⟨_, rfl⟩
    rw [← hrb] at WR
    have HRB := Lib.hid hrb
    clear h hB hsz hrb
    go_enter Tryz.func83, Tryz.ntmps83
    go_wp2_with fail
    rw [← HRB.out]
    refine WR.out.mono ?_
    rintro e w4 ⟨rfl, hB⟩
    obtain ⟨z0, z1, z2, z3, z4, y0, y1, y2, y3, y4, y5⟩ := z_facts (hB.box (rb, zRp) (.head _)).1
    have RET := Lib.hid (hB.rets (writeC s ⟨x.key, x.val ++ more, x.ver, x.til⟩).1 (.slice none 0 0))
    clear hB
    go_wp2_with fail
    (try simp only [Exit.inBlock, Exit.then])
    refine bodyPost_ret (results_cell_row rfl _ _ rb _ _ _ _ rfl RET.out.1 Tryz.underlying51 rfl rp_size) rfl ?_
    rw [HW.out]
    exact ⟨rfl, RET.out.2⟩

set_option maxHeartbeats 8000000 in
theorem cincr (c : Nat) (O : Nat → Prop) (s : CSt) (x : It) (n : Int) (w : World) (h : CS w c O s) (hf : FitC s) (hk : x.key.size ≤ 1000) (hv : x.val.size ≤ 1000) (hn0 : -1000000000000 ≤ n) (hn1 : n ≤ 1000000000000) :
    Calls Tryz.prog 82 #[.pointer (some ⟨c, 0, none⟩), .agg #[.string x.key, .string x.val, .int .i64 x.ver, .int .i64 x.til], .int .i64 n] w fun e w' => e = .returned (rpV (incrC s x n).1 (.slice none 0 0)) ∧ Steps w c O (incrC s x n).2 w' := by
  have hB := two_boxes h (itBox x) zRp
  obtain ⟨rb, hrb⟩ : ∃ rb, rb = w.heap.size + 1 := ⟨_, rfl⟩
  obtain ⟨xb, hxb⟩ : ∃ xb, xb = w.heap.size := ⟨_, rfl⟩
  have NUM := Lib.hid (cnum x.val _ hB.laid (by omega))
  rw [← hrb, ← hxb] at hB
  have HRB := Lib.hid hrb
  have HXB := Lib.hid hxb
  have HB := Lib.hid hB
  clear h hB hrb hxb
  go_enter Tryz.func82, Tryz.ntmps82
  go_wp2_with fail
  refine NUM.out.mono ?_
  rintro e w1 ⟨rfl, hk1⟩
  rw [← HRB.out, ← HXB.out]
  have hB := HB.out.kept0 hk1
  clear hk1 NUM HB HRB HXB
  obtain ⟨z0, z1, z2, z3, z4, y0, y1, y2, y3, y4, y5⟩ := z_facts (hB.box (rb, zRp) (.head _)).1
  cases hnum : numberB x.val with
  | none =>
    have hnv : numV none = .tuple #[.int .i64 0, .bool false] := rfl
    rw [hnv]
    have HW : Hid (incrC s x n = (Rp.err 12, s)) := Lib.hid (by unfold incrC; rw [hnum])
    have RET := Lib.hid (hB.rets (Rp.err 12) (.slice none 0 0))
    have hwr : wrap64 (0 + n) = n := by unfold wrap64; omega
    clear hB hnum hnv
    go_wp2_with fail
    (try simp only [Exit.inBlock, Exit.then])
    refine bodyPost_ret (results_cell_row rfl _ _ rb _ _ _ _ rfl RET.out.1 Tryz.underlying51 rfl rp_size) rfl ?_
    rw [HW.out]
    exact ⟨rfl, RET.out.2⟩
  | some v =>
    have hnv : numV (some v) = .tuple #[.int .i64 v, .bool true] := rfl
    rw [hnv]
    have hv1 : -1000000000000 ≤ v ∧ v ≤ 1000000000000 := by
      unfold numberB at hnum
      split at hnum
      · split at hnum
        · rename_i h
          injection hnum with hnum
          subst hnum
          exact h.2
        · cases hnum
      · cases hnum
    have HWR := Lib.hid (show wrap64 (v + n) = v + n by unfold wrap64; omega)
    have hm0 : -2000000000000 ≤ v + n := by omega
    have hm1 : v + n ≤ 2000000000000 := by omega
    by_cases hlo : v + n < -1000000000000
    · have HW : Hid (incrC s x n = (Rp.err 12, s)) := Lib.hid (by unfold incrC; rw [hnum]; exact if_pos (.inl hlo))
      have RET := Lib.hid (hB.rets (Rp.err 12) (.slice none 0 0))
      clear hB hnum hnv
      have hwr := HWR.out
      go_wp2_with fail
      (try simp only [Exit.inBlock, Exit.then])
      refine bodyPost_ret (results_cell_row rfl _ _ rb _ _ _ _ rfl RET.out.1 Tryz.underlying51 rfl rp_size) rfl ?_
      rw [HW.out]
      exact ⟨rfl, RET.out.2⟩
    · by_cases hhi : 1000000000000 < v + n
      · have HW : Hid (incrC s x n = (Rp.err 12, s)) := Lib.hid (by unfold incrC; rw [hnum]; exact if_pos (.inr hhi))
        have RET := Lib.hid (hB.rets (Rp.err 12) (.slice none 0 0))
        clear hB hnum hnv
        have hwr := HWR.out
        go_wp2_with fail
        (try simp only [Exit.inBlock, Exit.then])
        refine bodyPost_ret (results_cell_row rfl _ _ rb _ _ _ _ rfl RET.out.1 Tryz.underlying51 rfl rp_size) rfl ?_
        rw [HW.out]
        exact ⟨rfl, RET.out.2⟩
      · have HW : Hid (incrC s x n = ((if (writeC s ⟨x.key, itoaB (v + n), x.ver, x.til⟩).1.errno = 0 then ⟨0, (writeC s ⟨x.key, itoaB (v + n), x.ver, x.til⟩).1.val, v + n, (writeC s ⟨x.key, itoaB (v + n), x.ver, x.til⟩).1.ver, (writeC s ⟨x.key, itoaB (v + n), x.ver, x.til⟩).1.keys⟩ else (writeC s ⟨x.key, itoaB (v + n), x.ver, x.til⟩).1), (writeC s ⟨x.key, itoaB (v + n), x.ver, x.til⟩).2)) :=
          Lib.hid (by unfold incrC; rw [hnum]; exact if_neg (fun h => h.elim hlo hhi))
        have ITO : Hid (Calls Tryz.prog 109 #[.int .i64 (v + n)] w1 fun e w' => e = .returned (.string (itoaB (v + n))) ∧ ∃ k os, w' = Go.Sort.grow (w1.drewN k) os) := Lib.hid (Tryz.strconv_Itoa (v + n) (by omega) (by omega) w1 hB.laid.tab)
        have hisz : (itoaB (v + n)).size ≤ 1000 := itoaB_size (by omega) (by omega)
        generalize itoaB (v + n) = txt at *
        have HB := Lib.hid hB
        clear hB hnum hnv z0 z1 z2 z3 z4 y0 y1 y2 y3 y4 y5
        obtain ⟨_, _, _, _, x0, x1, x2, x3, x4⟩ := it_facts (HB.out.box (xb, itBox x) (.tail _ (.head _))).1
        have hwr := HWR.out
        go_wp2_with fail
        clear hwr
        refine ITO.out.mono ?_
        rintro e w2 ⟨rfl, k, os, hw2⟩
        have hB := HB.out.kept0 (w' := w2) (hw2 ▸ ((Kept.refl (fun _ => False) w1).drewN k).trans (grow_kept _ _) (fun _ _ h => h))
        clear hw2 HB x0 x1 x2 x3 x4
        obtain ⟨v0, v1', v2, v3, x0, x1, x2, x3, x4⟩ := it_facts (hB.box (xb, itBox x) (.tail _ (.head _))).1
        have hB2 := (hB.swap.over (o' := itBox ⟨x.key, txt, x.ver, x.til⟩) (kept_at (o := 1) (.string txt) (Kept.refl _ _)) (by rw [setCell_block (hB.box (xb, itBox x) (.tail _ (.head _))).1]; rfl)).swap
        have WR := Lib.hid (hB2.write hf ⟨x.key, txt, x.ver, x.til⟩ hk hisz)
        obtain ⟨_, _, _, _, q0, q1, q2, q3, q4⟩ := it_facts (hB2.box (xb, itBox ⟨x.key, txt, x.ver, x.til⟩) (.tail _ (.head _))).1
        simp only at q0 q1 q2 q3
        clear hB hB2
        go_wp2_with fail
        refine WR.out.mono ?_
        rintro e w4 ⟨rfl, hB⟩
        have hks := writeC_keys s ⟨x.key, txt, x.ver, x.til⟩
        have her := writeC_errno s ⟨x.key, txt, x.ver, x.til⟩
        have HKS := Lib.hid hks
        have HFC := Lib.hid hf
        clear hks WR x0 x1 x2 x3 x4 q0 q1 q2 q3 q4 v0 v1' v2 v3 hf
        generalize writeC s ⟨x.key, txt, x.ver, x.til⟩ = r at *
        obtain ⟨⟨r0, r1, r2, r3, r4⟩, s'⟩ := r
        simp only at hB her HW HKS
        obtain ⟨rfl⟩ := HKS
        obtain ⟨z0, z1, z2, z3, z4, y0, y1, y2, y3, y4, y5⟩ := z_facts (hB.box (rb, zRp) (.head _)).1
        rcases her with rfl | rfl
        · have RET := Lib.hid (((hB.ret ⟨0, r1, v + n, r3, []⟩ (.slice none 0 0)).2.alloc (rpO ⟨0, r1, v + n, r3, []⟩ (.slice none 0 0))).ends)
          clear hB
          go_wp2_with fail
          (try simp only [Exit.inBlock, Exit.then])
          refine bodyPost_ret (results_cell_row rfl _ _ rb _ _ _ _ rfl RET.out.1 Tryz.underlying51 rfl rp_size) rfl ?_
          rw [HW.out]
          exact ⟨rfl, RET.out.2⟩
        · have RET := Lib.hid (((hB.ret ⟨13, r1, r2, r3, []⟩ (.slice none 0 0)).2.alloc (rpO ⟨13, r1, r2, r3, []⟩ (.slice none 0 0))).ends)
          clear hB
          go_wp2_with fail
          (try simp only [Exit.inBlock, Exit.then])
          refine bodyPost_ret (results_cell_row rfl _ _ rb _ _ _ _ rfl RET.out.1 Tryz.underlying51 rfl rp_size) rfl ?_
          rw [HW.out]
          exact ⟨rfl, RET.out.2⟩
end Go.Proofs.YtekcjoogggoijaaGreatDoor
