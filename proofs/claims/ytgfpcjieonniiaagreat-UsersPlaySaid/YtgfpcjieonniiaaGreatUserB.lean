/-
  The walks of package users: Secret, Fail, Good, Locked, Fails.
-/
import Derived.Test.YtgfpcjieonniiaaGreatUserA
namespace Go.Proofs.YtgfpcjieonniiaaGreat
set_option linter.unusedVariables false
set_option linter.unusedSimpArgs false
set_option linter.unnecessarySimpa false
open Go.RowKit Go.Maps

/-- A failure: the user behind it, and are they locked out by it? -/
def failed (x : Usr) (now : Int) : Usr × Bool :=
  if x.fails + 1 < 3 then ({ x with fails := x.fails + 1 }, false)
  else ({ x with fails := 0, locked := true, till := if now ≤ 9223372036854775787 then now + 20 else 9223372036854775807 }, true)

def Failed (w w' : World) (b m : Nat) (L : List Usr) (x x' : Usr) : Prop := UsersAt w' b m (turn L x') ∧ Kept (fun k => k = x.blk) w w'

set_option maxRecDepth 100000 in
set_option maxHeartbeats 800000 in
theorem fail_any (b m : Nat) (L : List Usr) (n : ByteArray) (x : Usr) (now : Int) (w : World) (h : UsersAt w b m L) (hn : n.size ≤ maxLen) (hf : findU L n = some x) (f0 : 0 ≤ x.fails) (f1 : x.fails < 3) (n0 : -9223372036854775808 ≤ now) (n1 : now ≤ 9223372036854775807) :
    Calls Tryz.prog 15 #[.pointer (some ⟨b, 0, none⟩), .string n, .int .i64 now] w fun e w' => e = .returned (.bool (failed x now).2) ∧ Failed w w' b m L x (failed x now).1 := by
  have hx := (findU_some hf).1
  have hb := h.user x hx
  have HT := Lib.hid (fun (x' : Usr) (w' : World) e1 e2 e3 e4 => h.turned (w' := w') (x' := x') hx e1 e2 e3 e4)
  have HO := Lib.hid (of_some h hn hf)
  clear hf h
  obtain ⟨nm, xb, sec, fl, lk, tl⟩ := x
  simp only [Usr.cells] at hb f0 f1
  have k1 := cell_at hb 1
  have z1 := frozen_at hb 1
  simp at k1
  have hlt := lt_of_block hb
  have hw : wrap64 (fl + 1) = fl + 1 := by unfold wrap64; omega
  have HW := Lib.hid hw
  clear hw
  by_cases c : fl + 1 < 3
  · have hr : failed ⟨nm, xb, sec, fl, lk, tl⟩ now = (⟨nm, xb, sec, fl + 1, lk, tl⟩, false) := by simp [failed, c]
    rw [hr]
    have HB := Lib.hid hb
    clear hr hb
    go_enter Tryz.func15, Tryz.ntmps15
    go_wp2_with (first | (go_at_call 29; refine HO.out.mono ?_; rintro e w1 ⟨rfl, rfl⟩) | (go_at_call 30; refine (atomic_add xb 1 fl 1 (fl + 1) _ k1 z1 HW.out).mono ?_; rintro e w1 ⟨rfl, rfl⟩))
    go_ret
    exact ⟨rfl, HT.out _ _ rfl rfl (by rw [setCell_block HB.out]; rfl) ((Kept.refl (fun k => k = xb) w).setCell (p := ⟨xb, 1, none⟩) (fun _ => rfl) _), (Kept.refl (fun k => k = xb) w).setCell (p := ⟨xb, 1, none⟩) (fun _ => rfl) _⟩
  · have c' : 3 ≤ fl + 1 := by omega
    have k2 := cell_at hb 2
    have k3 := cell_at hb 3
    have z2 := frozen_at hb 2
    have z3 := frozen_at hb 3
    simp at k2 k3
    have HB := Lib.hid hb
    clear hb
    by_cases c2 : now ≤ 9223372036854775787
    · have hr : failed ⟨nm, xb, sec, fl, lk, tl⟩ now = (⟨nm, xb, sec, 0, true, now + 20⟩, true) := by simp [failed, c, c2]
      rw [hr]
      clear hr c
      go_enter Tryz.func15, Tryz.ntmps15
      go_wp2_with (first | (go_at_call 29; refine HO.out.mono ?_; rintro e w1 ⟨rfl, rfl⟩) | (go_at_call 30; refine (atomic_add xb 1 fl 1 (fl + 1) _ k1 z1 HW.out).mono ?_; rintro e w1 ⟨rfl, rfl⟩) | (go_at_call 31; refine (atomic_store xb 1 (.int .i64 (fl + 1)) 0 _ (by go_simp) (by go_simp)).mono ?_; rintro e w1 ⟨rfl, rfl⟩))
      go_ret
      refine ⟨rfl, HT.out _ _ rfl rfl ?_ ?_, ?_⟩
      · exact setCell_block (setCell_block (setCell_block (setCell_block (setCell_block HB.out 1 _) 1 _) 2 _) 3 _) 3 _
      · exact (((((Kept.refl (fun k => k = xb) w).setCell (p := ⟨xb, 1, none⟩) (fun _ => rfl) _).setCell (p := ⟨xb, 1, none⟩) (fun _ => rfl) _).setCell (p := ⟨xb, 2, none⟩) (fun _ => rfl) _).setCell (p := ⟨xb, 3, none⟩) (fun _ => rfl) _).setCell (p := ⟨xb, 3, none⟩) (fun _ => rfl) _
      · exact (((((Kept.refl (fun k => k = xb) w).setCell (p := ⟨xb, 1, none⟩) (fun _ => rfl) _).setCell (p := ⟨xb, 1, none⟩) (fun _ => rfl) _).setCell (p := ⟨xb, 2, none⟩) (fun _ => rfl) _).setCell (p := ⟨xb, 3, none⟩) (fun _ => rfl) _).setCell (p := ⟨xb, 3, none⟩) (fun _ => rfl) _
    · have hr : failed ⟨nm, xb, sec, fl, lk, tl⟩ now = (⟨nm, xb, sec, 0, true, 9223372036854775807⟩, true) := by simp [failed, c, c2]
      rw [hr]
      clear hr c
      go_enter Tryz.func15, Tryz.ntmps15
      go_wp2_with (first | (go_at_call 29; refine HO.out.mono ?_; rintro e w1 ⟨rfl, rfl⟩) | (go_at_call 30; refine (atomic_add xb 1 fl 1 (fl + 1) _ k1 z1 HW.out).mono ?_; rintro e w1 ⟨rfl, rfl⟩) | (go_at_call 31; refine (atomic_store xb 1 (.int .i64 (fl + 1)) 0 _ (by go_simp) (by go_simp)).mono ?_; rintro e w1 ⟨rfl, rfl⟩))
      go_ret
      refine ⟨rfl, HT.out _ _ rfl rfl ?_ ?_, ?_⟩
      · exact setCell_block (setCell_block (setCell_block (setCell_block (setCell_block HB.out 1 _) 1 _) 2 _) 3 _) 3 _
      · exact (((((Kept.refl (fun k => k = xb) w).setCell (p := ⟨xb, 1, none⟩) (fun _ => rfl) _).setCell (p := ⟨xb, 1, none⟩) (fun _ => rfl) _).setCell (p := ⟨xb, 2, none⟩) (fun _ => rfl) _).setCell (p := ⟨xb, 3, none⟩) (fun _ => rfl) _).setCell (p := ⟨xb, 3, none⟩) (fun _ => rfl) _
      · exact (((((Kept.refl (fun k => k = xb) w).setCell (p := ⟨xb, 1, none⟩) (fun _ => rfl) _).setCell (p := ⟨xb, 1, none⟩) (fun _ => rfl) _).setCell (p := ⟨xb, 2, none⟩) (fun _ => rfl) _).setCell (p := ⟨xb, 3, none⟩) (fun _ => rfl) _).setCell (p := ⟨xb, 3, none⟩) (fun _ => rfl) _

theorem fail_none (b m : Nat) (L : List Usr) (n : ByteArray) (now : Int) (w : World) (h : UsersAt w b m L) (hn : n.size ≤ maxLen) (hf : findU L n = none) :
    Calls Tryz.prog 15 #[.pointer (some ⟨b, 0, none⟩), .string n, .int .i64 now] w fun e w' => e = .returned (.bool false) ∧ w = w' := by
  have HO := Lib.hid (of_none h hn hf)
  clear hf h
  go_enter Tryz.func15, Tryz.ntmps15
  go_wp2_with (first | (go_at_call 29; refine HO.out.mono ?_; rintro e w1 ⟨rfl, rfl⟩))
  go_ret
  exact ⟨rfl, rfl⟩

theorem good_any (b m : Nat) (L : List Usr) (n : ByteArray) (x : Usr) (w : World) (h : UsersAt w b m L) (hn : n.size ≤ maxLen) (hf : findU L n = some x) :
    Calls Tryz.prog 17 #[.pointer (some ⟨b, 0, none⟩), .string n] w fun e w' => e = .returned (.tuple #[]) ∧ Failed w w' b m L x { x with fails := 0 } := by
  have hx := (findU_some hf).1
  have hb := h.user x hx
  have HT := Lib.hid (fun (x' : Usr) (w' : World) e1 e2 e3 e4 => h.turned (w' := w') (x' := x') hx e1 e2 e3 e4)
  have HO := Lib.hid (of_some h hn hf)
  clear hf h
  obtain ⟨nm, xb, sec, fl, lk, tl⟩ := x
  simp only [Usr.cells] at hb
  have k1 := cell_at hb 1
  have z1 := frozen_at hb 1
  simp at k1
  have HB := Lib.hid hb
  clear hb
  go_enter Tryz.func17, Tryz.ntmps17
  go_wp2_with (first | (go_at_call 29; refine HO.out.mono ?_; rintro e w1 ⟨rfl, rfl⟩) | (go_at_call 31; refine (atomic_store xb 1 (.int .i64 fl) 0 _ k1 z1).mono ?_; rintro e w1 ⟨rfl, rfl⟩))
  go_end0
  exact ⟨rfl, HT.out _ _ rfl rfl (setCell_block HB.out 1 _) ((Kept.refl (fun k => k = xb) w).setCell (p := ⟨xb, 1, none⟩) (fun _ => rfl) _), (Kept.refl (fun k => k = xb) w).setCell (p := ⟨xb, 1, none⟩) (fun _ => rfl) _⟩

theorem good_none (b m : Nat) (L : List Usr) (n : ByteArray) (w : World) (h : UsersAt w b m L) (hn : n.size ≤ maxLen) (hf : findU L n = none) :
    Calls Tryz.prog 17 #[.pointer (some ⟨b, 0, none⟩), .string n] w fun e w' => e = .returned (.tuple #[]) ∧ w = w' := by
  have HO := Lib.hid (of_none h hn hf)
  clear hf h
  go_enter Tryz.func17, Tryz.ntmps17
  go_wp2_with (first | (go_at_call 29; refine HO.out.mono ?_; rintro e w1 ⟨rfl, rfl⟩))
  go_end0
  exact ⟨rfl, rfl⟩

/-- Is a user locked out? -/
def lockedB (o : Option Usr) (now : Int) : Bool := match o with
  | none => false
  | some x => x.locked && decide (now ≤ x.till)
/-- How many failures? -/
def failsOf (o : Option Usr) : Int := match o with
  | none => 0
  | some x => x.fails

set_option maxRecDepth 100000 in
theorem locked_any (b m : Nat) (L : List Usr) (n : ByteArray) (now : Int) (w : World) (h : UsersAt w b m L) (hn : n.size ≤ maxLen) :
    Calls Tryz.prog 19 #[.pointer (some ⟨b, 0, none⟩), .string n, .int .i64 now] w fun e w' => e = .returned (.bool (lockedB (findU L n) now)) ∧ w = w' := by
  cases hf : findU L n with
  | none =>
    have HO := Lib.hid (of_none h hn hf)
    clear hf h
    show Calls _ _ _ _ fun e w' => e = .returned (.bool false) ∧ w = w'
    go_enter Tryz.func19, Tryz.ntmps19
    go_wp2_with (first | (go_at_call 29; refine HO.out.mono ?_; rintro e w1 ⟨rfl, rfl⟩))
    go_ret
    exact ⟨rfl, rfl⟩
  | some x =>
    have hb := h.user x (findU_some hf).1
    have HO := Lib.hid (of_some h hn hf)
    clear hf h
    obtain ⟨nm, xb, sec, fl, lk, tl⟩ := x
    simp only [Usr.cells] at hb
    have k2 := cell_at hb 2
    have k3 := cell_at hb 3
    simp at k2 k3
    clear hb
    show Calls _ _ _ _ fun e w' => e = .returned (.bool (lk && decide (now ≤ tl))) ∧ w = w'
    cases lk with
    | false =>
      go_enter Tryz.func19, Tryz.ntmps19
      go_wp2_with (first | (go_at_call 29; refine HO.out.mono ?_; rintro e w1 ⟨rfl, rfl⟩))
      go_ret
      exact ⟨rfl, rfl⟩
    | true =>
      go_enter Tryz.func19, Tryz.ntmps19
      go_wp2_with (first | (go_at_call 29; refine HO.out.mono ?_; rintro e w1 ⟨rfl, rfl⟩))
      go_ret
      exact ⟨rfl, rfl⟩

theorem fails_any (b m : Nat) (L : List Usr) (n : ByteArray) (w : World) (h : UsersAt w b m L) (hn : n.size ≤ maxLen) :
    Calls Tryz.prog 21 #[.pointer (some ⟨b, 0, none⟩), .string n] w fun e w' => e = .returned (.int .i64 (failsOf (findU L n))) ∧ w = w' := by
  cases hf : findU L n with
  | none =>
    have HO := Lib.hid (of_none h hn hf)
    clear hf h
    show Calls _ _ _ _ fun e w' => e = .returned (.int .i64 0) ∧ w = w'
    go_enter Tryz.func21, Tryz.ntmps21
    go_wp2_with (first | (go_at_call 29; refine HO.out.mono ?_; rintro e w1 ⟨rfl, rfl⟩))
    go_ret
    exact ⟨rfl, rfl⟩
  | some x =>
    have hb := h.user x (findU_some hf).1
    have HO := Lib.hid (of_some h hn hf)
    clear hf h
    obtain ⟨nm, xb, sec, fl, lk, tl⟩ := x
    simp only [Usr.cells] at hb
    have k1 := cell_at hb 1
    simp at k1
    clear hb
    show Calls _ _ _ _ fun e w' => e = .returned (.int .i64 fl) ∧ w = w'
    go_enter Tryz.func21, Tryz.ntmps21
    go_wp2_with (first | (go_at_call 29; refine HO.out.mono ?_; rintro e w1 ⟨rfl, rfl⟩) | (go_at_call 32; refine (atomic_load xb 1 fl _ k1).mono ?_; rintro e w1 ⟨rfl, rfl⟩))
    go_ret
    exact ⟨rfl, rfl⟩

/-- What Secret answers. -/
def secretOf (o : Option Usr) : Value := match o with
  | none => .tuple #[.string ⟨#[]⟩, .bool false]
  | some x => .tuple #[.string x.secret, .bool true]
theorem secret_any (b m : Nat) (L : List Usr) (n : ByteArray) (w : World) (h : UsersAt w b m L) (hn : n.size ≤ maxLen) :
    Calls Tryz.prog 13 #[.pointer (some ⟨b, 0, none⟩), .string n] w fun e w' => e = .returned (secretOf (findU L n)) ∧ w = w' := by
  cases hf : findU L n with
  | none =>
    have HO := Lib.hid (of_none h hn hf)
    clear hf h
    show Calls _ _ _ _ fun e w' => e = .returned (.tuple #[.string ⟨#[]⟩, .bool false]) ∧ w = w'
    go_enter Tryz.func13, Tryz.ntmps13
    go_wp2_with (first | (go_at_call 29; refine HO.out.mono ?_; rintro e w1 ⟨rfl, rfl⟩))
    go_ret2
    exact ⟨rfl, rfl⟩
  | some x =>
    have hb := h.user x (findU_some hf).1
    have HO := Lib.hid (of_some h hn hf)
    clear hf h
    obtain ⟨nm, xb, sec, fl, lk, tl⟩ := x
    simp only [Usr.cells] at hb
    have k0 := cell_at hb 0
    simp at k0
    clear hb
    show Calls _ _ _ _ fun e w' => e = .returned (.tuple #[.string sec, .bool true]) ∧ w = w'
    go_enter Tryz.func13, Tryz.ntmps13
    go_wp2_with (first | (go_at_call 29; refine HO.out.mono ?_; rintro e w1 ⟨rfl, rfl⟩))
    go_ret2
    exact ⟨rfl, rfl⟩
end Go.Proofs.YtgfpcjieonniiaaGreat
