/-
  The reference's Number.
-/
import Derived.Test.YtekcjoogggoijaaGreatDoorCp25
set_option linter.unusedVariables false
set_option linter.unusedSimpArgs false
set_option linter.unnecessarySimpa false
namespace Go.Proofs.YtekcjoogggoijaaGreatDoor
open Go.RowKit
set_option maxRecDepth 100000

theorem valD_bound : ∀ (l : List UInt8) (acc : Int) (m : Int), 0 ≤ acc → acc < m → (∀ c ∈ l, 48 ≤ c.toNat ∧ c.toNat ≤ 57) → 0 ≤ valD acc l ∧ valD acc l < m * 10 ^ l.length
  | [], acc, m, h0, h1, _ => ⟨h0, by simpa [valD] using h1⟩
  | c :: r, acc, m, h0, h1, h => by
    have hc := h c (.head _)
    have := valD_bound r (acc * 10 + ((c.toNat : Int) - 48)) (m * 10) (by omega) (by omega) (fun d hd => h d (.tail _ hd))
    rw [valD, List.length_cons, Int.pow_succ]
    rw [Int.mul_assoc, Int.mul_comm 10] at this
    exact this
/-- The loop of Number. -/
def NLoop (d : ByteArray) (gk : Nat) (iv vv : Value) : Prop := ∃ i : Nat, i + gk = d.size ∧ iv = .int .i64 (i : Int) ∧ vv = .int .i64 (valD 0 (d.data.toList.take i)) ∧ ∀ c ∈ d.data.toList.take i, 48 ≤ c.toNat ∧ c.toNat ≤ 57

set_option maxHeartbeats 4000000 in
theorem ref_number (s : ByteArray) (w : World) (hs : s.size ≤ 1000000) :
    Calls Tryz.prog 36 #[.string s] w fun e w' => e = .returned (numV (refNum s)) ∧ Kept (fun _ => False) w w' := by
  by_cases he : s = ⟨#[]⟩
  · subst he
    have HR := Lib.hid (show refNum ⟨#[]⟩ = none from if_pos (.inl rfl))
    go_enter Tryz.func36, Tryz.ntmps36
    go_wp2_with fail
    go_ret2
    exact ⟨by rw [HR.out]; rfl, Kept.refl _ _⟩
  · have hz : 0 < s.size := by
      rcases Nat.eq_zero_or_pos s.size with h | h
      · refine absurd ?_ he
        exact ByteArray.ext (Array.eq_empty_of_size_eq_zero h)
      · exact h
    have hne : s.toList.isEmpty = false := by
      rw [ByteArray.toList_eq]
      cases h : s.data.toList with
      | nil => exact absurd (ByteArray.ext (Array.ext' h)) he
      | cons _ _ => rfl
    clear he
    by_cases hm : (s[0].toNat : Int) = 45
    · obtain ⟨d, hd⟩ : ∃ d, d = s.extract 1 s.size := ⟨_, rfl⟩
      have hds : d.size = s.size - 1 := by rw [hd, ByteArray.size_extract]; omega
      have hdl : d.data.toList = s.data.toList.tail := by
        rw [hd, ByteArray.data_extract, Array.toList_extract, List.extract_eq_take_drop, List.drop_one, List.take_of_length_le]
        rw [List.length_tail]
        exact Nat.le_refl _
      have hh : s.data.toList.head? = some 45 := by
        rw [List.head?_eq_getElem?, List.getElem?_eq_getElem (show 0 < s.data.toList.length from hz)]
        have : s.data.toList[0]'hz = s[0] := by simp [ByteArray.getElem_eq_getElem_data]
        rw [this]
        congr 1
        apply UInt8.toNat_inj.1
        show s[0].toNat = 45
        omega
      have hdg : digsOf s.data.toList = d.data.toList := by unfold digsOf; rw [if_pos hh, hdl]
      have hR : refNum s = if d.data.toList = [] ∨ 13 < d.data.toList.length then none else if ∀ c ∈ d.data.toList, 48 ≤ c.toNat ∧ c.toNat ≤ 57 then (if -1000000000000 ≤ -(valD 0 d.data.toList) ∧ -(valD 0 d.data.toList) ≤ 1000000000000 ∧ itoaB (-(valD 0 d.data.toList)) = s then some (-(valD 0 d.data.toList)) else none) else none := by
        unfold refNum
        rw [hdg, if_pos hh]
      have HR := Lib.hid hR
      clear hR hdg hh hdl
      by_cases h1 : d.size = 0
      · have HN := Lib.hid (HR.out.trans (if_pos (.inl (List.eq_nil_of_length_eq_zero h1))))
        have hte : (s.extract 1 s.size).toList = [] := by
          rw [← hd, ByteArray.toList_eq]
          exact List.eq_nil_of_length_eq_zero h1
        clear hd
        go_enter Tryz.func36, Tryz.ntmps36
        go_wp2_with fail
        go_ret2
        rw [HN.out]
        exact ⟨rfl, Kept.refl _ _⟩
      have hte : (s.extract 1 s.size).toList ≠ [] := by
        rw [← hd, ByteArray.toList_eq]
        exact fun h => h1 (congrArg List.length h)
      have hti : (s.extract 1 s.size).toList.isEmpty = false := by
        cases h : (s.extract 1 s.size).toList with
        | nil => exact absurd h hte
        | cons _ _ => rfl
      by_cases h2 : 13 < d.size
      · have HN := Lib.hid (HR.out.trans (if_pos (.inr h2)))
        have h2' : 13 < ((s.size - 1 : Nat) : Int) := by omega
        clear hd
        go_enter Tryz.func36, Tryz.ntmps36
        go_wp2_with fail
        all_goals
          go_ret2
          rw [HN.out]
          exact ⟨rfl, Kept.refl _ _⟩
      have h2' : ((s.size - 1 : Nat) : Int) ≤ 13 := by omega
      have hR2 : refNum s = if ∀ c ∈ d.data.toList, 48 ≤ c.toNat ∧ c.toNat ≤ 57 then (if -1000000000000 ≤ -(valD 0 d.data.toList) ∧ -(valD 0 d.data.toList) ≤ 1000000000000 ∧ itoaB (-(valD 0 d.data.toList)) = s then some (-(valD 0 d.data.toList)) else none) else none :=
        HR.out.trans (if_neg (fun h => h.elim (fun h => h1 (congrArg List.length h)) (fun h => h2 h)))
      have BAD := Lib.hid (fun (c : UInt8) (hc : c ∈ d.data.toList) (hb : c.toNat < 48 ∨ 57 < c.toNat) => hR2.trans (if_neg (fun h => by have := h c hc; omega)))
      have GOOD := Lib.hid (fun h => hR2.trans (if_pos h))
      clear hR2 HR
      go_enter Tryz.func36, Tryz.ntmps36
      go_wp2_with fail
      all_goals rw [← hd]
      clear hd hte hti h2'
      go_loopg [6, 7] d.size (fun gk vv iv wr => NLoop d gk iv vv ∧ Kept (fun _ => False) w wr)
      case atStart => exact ⟨⟨0, by omega, rfl, by simp [valD], by simp⟩, Kept.refl _ _⟩
      case round =>
        obtain ⟨⟨i, hi, rfl, rfl, hall⟩, hk⟩ := hrel
        have HK := Lib.hid hk
        have HALL := Lib.hid hall
        have hvb := valD_bound (d.data.toList.take i) 0 1 (by omega) (by omega) hall
        have hlen : (d.data.toList.take i).length ≤ 13 := by rw [List.length_take]; have : d.data.toList.length = d.size := rfl; omega
        have hpow : (10 : Int) ^ (d.data.toList.take i).length ≤ 10 ^ 13 := (by exact_mod_cast Nat.pow_le_pow_right (show 0 < 10 by decide) hlen)
        have hv1 : valD 0 (d.data.toList.take i) < 10000000000000 := by omega
        have hv0 := hvb.1
        clear hk hall hvb hlen hpow
        by_cases hlt : (i : Int) < d.size
        · have hl : i < d.size := by omega
          have hc : d.data.toList[i]'hl = d[i] := by simp [ByteArray.getElem_eq_getElem_data]
          have HNX := Lib.hid (show valD 0 (d.data.toList.take (i + 1)) = valD 0 (d.data.toList.take i) * 10 + ((d[i].toNat : Int) - 48) by
            rw [List.take_succ_eq_append_getElem hl, valD_append, hc]
            rfl)
          have HMEM := Lib.hid (show d[i] ∈ d.data.toList by rw [← hc]; exact List.getElem_mem _)
          have HAN := Lib.hid (fun (h0 : 48 ≤ d[i].toNat) (h1 : d[i].toNat ≤ 57) => (by
            rw [List.take_succ_eq_append_getElem hl, hc]
            intro c h
            rcases List.mem_append.1 h with h | h
            · exact HALL.out c h
            · rw [List.mem_singleton.1 h]; exact ⟨h0, h1⟩ : ∀ c ∈ d.data.toList.take (i + 1), 48 ≤ c.toNat ∧ c.toNat ≤ 57))
          clear hc
          generalize hcc : d[i] = cc at *
          have hcb := cc.toNat_lt
          by_cases c1 : (cc.toNat : Int) < 48
          · have HN := Lib.hid (BAD.out cc HMEM.out (.inl (by omega)))
            go_wp2_with fail
            go_ret2
            rw [HN.out]
            exact ⟨rfl, HK.out⟩
          by_cases c2 : 57 < (cc.toNat : Int)
          · have HN := Lib.hid (BAD.out cc HMEM.out (.inr (by omega)))
            go_wp2_with fail
            go_ret2
            rw [HN.out]
            exact ⟨rfl, HK.out⟩
          generalize hvv : valD 0 (d.data.toList.take i) = vv at *
          have e8 : IntKind.u8.wrap ((cc.toNat : Int) - 48) = (cc.toNat : Int) - 48 := IntWalk.u8_in _ (by omega)
          go_wp2_with fail
          go_roundg (gk - 1)
          case measure => omega
          case rel => exact ⟨⟨i + 1, by omega, by go_num, by rw [HNX.out], HAN.out (by omega) (by omega)⟩, HK.out⟩
        · obtain rfl : i = d.size := by omega
          have ht : d.data.toList.take d.size = d.data.toList := List.take_of_length_le (Nat.le_refl _)
          rw [ht] at HALL hv0 hv1 ⊢
          clear ht
          generalize hvv : valD 0 d.data.toList = vv at *
          have HV := Lib.hid (GOOD.out HALL.out)
          clear hvv
          have HW : Hid (wrap64 (-vv) = -vv) := Lib.hid (by unfold wrap64; omega)
          have HW2 : Hid (IntKind.i64.wrap (-vv) = -vv) := Lib.hid (IntWalk.i64_in _ (by omega))
          by_cases b0 : -vv < -1000000000000
          · have HN := Lib.hid (HV.out.trans (if_neg (fun h => by omega)))
            have hw := HW.out
            go_wp2_with fail
            go_ret2
            rw [HN.out]
            exact ⟨rfl, HK.out⟩
          by_cases b1 : 1000000000000 < -vv
          · have HN := Lib.hid (HV.out.trans (if_neg (fun h => by omega)))
            have hw := HW.out
            go_wp2_with fail
            go_ret2
            rw [HN.out]
            exact ⟨rfl, HK.out⟩
          have DG := Lib.hid (fun W => ref_digits (-vv) W (by omega) (by omega))
          have hw := HW.out
          by_cases he : itoaB (-vv) = s
          · have HN := Lib.hid (HV.out.trans (if_pos ⟨by omega, by omega, he⟩))
            have HE := Lib.hid he
            clear he
            go_wp2_with fail
            refine (DG.out _).mono ?_
            rintro e w2 ⟨rfl, hk2⟩
            have HK2 := Lib.hid (HK.out.trans hk2 (fun _ _ h => h))
            clear hk2
            rw [HE.out]
            go_wp2_with fail
            go_ret2
            rw [HN.out]
            exact ⟨rfl, HK2.out⟩
          · have HN := Lib.hid (HV.out.trans (if_neg (fun h => he h.2.2)))
            have hne2 : ((itoaB (-vv)).toList == s.toList) = false := (by rw [ByteArray.toList_eq, ByteArray.toList_eq]; exact beq_eq_false_iff_ne.2 fun h => he (ByteArray.ext (Array.ext' h)))
            generalize itoaB (-vv) = it at *
            go_wp2_with fail
            refine (DG.out _).mono ?_
            rintro e w2 ⟨rfl, hk2⟩
            have HK2 := Lib.hid (HK.out.trans hk2 (fun _ _ h => h))
            clear hk2
            go_wp2_with fail
            go_ret2
            rw [HN.out]
            exact ⟨rfl, HK2.out⟩
    · have hmb : ((s[0].toNat : Int) == 45) = false := by simpa using hm
      have hh : s.data.toList.head? ≠ some 45 := by
        rw [List.head?_eq_getElem?, List.getElem?_eq_getElem (show 0 < s.data.toList.length from hz)]
        have : s.data.toList[0]'hz = s[0] := by simp [ByteArray.getElem_eq_getElem_data]
        rw [this]
        intro h
        injection h with h
        rw [h] at hm
        exact hm rfl
      have hdg : digsOf s.data.toList = s.data.toList := by unfold digsOf; rw [if_neg hh]
      have hR : refNum s = if s.data.toList = [] ∨ 13 < s.data.toList.length then none else if ∀ c ∈ s.data.toList, 48 ≤ c.toNat ∧ c.toNat ≤ 57 then (if -1000000000000 ≤ (valD 0 s.data.toList) ∧ (valD 0 s.data.toList) ≤ 1000000000000 ∧ itoaB (valD 0 s.data.toList) = s then some (valD 0 s.data.toList) else none) else none := by
        unfold refNum
        rw [hdg, if_neg hh]
      have HR := Lib.hid hR
      clear hR hdg hh
      by_cases h2 : 13 < s.size
      · have HN := Lib.hid (HR.out.trans (if_pos (.inr h2)))
        have h2' : 13 < (s.size : Int) := by omega
        go_enter Tryz.func36, Tryz.ntmps36
        go_wp2_with fail
        all_goals
          go_ret2
          rw [HN.out]
          exact ⟨rfl, Kept.refl _ _⟩
      have h2' : (s.size : Int) ≤ 13 := by omega
      have hR2 : refNum s = if ∀ c ∈ s.data.toList, 48 ≤ c.toNat ∧ c.toNat ≤ 57 then (if -1000000000000 ≤ (valD 0 s.data.toList) ∧ (valD 0 s.data.toList) ≤ 1000000000000 ∧ itoaB (valD 0 s.data.toList) = s then some (valD 0 s.data.toList) else none) else none :=
        HR.out.trans (if_neg (fun h => h.elim (fun h => absurd (show s.size = 0 from congrArg List.length h) (by omega)) (fun h => h2 h)))
      have BAD := Lib.hid (fun (c : UInt8) (hc : c ∈ s.data.toList) (hb : c.toNat < 48 ∨ 57 < c.toNat) => hR2.trans (if_neg (fun h => by have := h c hc; omega)))
      have GOOD := Lib.hid (fun h => hR2.trans (if_pos h))
      clear hR2 HR
      go_enter Tryz.func36, Tryz.ntmps36
      go_wp2_with fail
      go_loopg [6, 7] s.size (fun gk vv iv wr => NLoop s gk iv vv ∧ Kept (fun _ => False) w wr)
      case atStart => exact ⟨⟨0, by omega, rfl, by simp [valD], by simp⟩, Kept.refl _ _⟩
      case round =>
        obtain ⟨⟨i, hi, rfl, rfl, hall⟩, hk⟩ := hrel
        have HK := Lib.hid hk
        have HALL := Lib.hid hall
        have hvb := valD_bound (s.data.toList.take i) 0 1 (by omega) (by omega) hall
        have hlen : (s.data.toList.take i).length ≤ 13 := by rw [List.length_take]; have : s.data.toList.length = s.size := rfl; omega
        have hpow : (10 : Int) ^ (s.data.toList.take i).length ≤ 10 ^ 13 := (by exact_mod_cast Nat.pow_le_pow_right (show 0 < 10 by decide) hlen)
        have hv1 : valD 0 (s.data.toList.take i) < 10000000000000 := by omega
        have hv0 := hvb.1
        clear hk hall hvb hlen hpow
        by_cases hlt : (i : Int) < s.size
        · have hl : i < s.size := by omega
          have hc : s.data.toList[i]'hl = s[i] := by simp [ByteArray.getElem_eq_getElem_data]
          have HNX := Lib.hid (show valD 0 (s.data.toList.take (i + 1)) = valD 0 (s.data.toList.take i) * 10 + ((s[i].toNat : Int) - 48) by
            rw [List.take_succ_eq_append_getElem hl, valD_append, hc]
            rfl)
          have HMEM := Lib.hid (show s[i] ∈ s.data.toList by rw [← hc]; exact List.getElem_mem _)
          have HAN := Lib.hid (fun (h0 : 48 ≤ s[i].toNat) (h1 : s[i].toNat ≤ 57) => (by
            rw [List.take_succ_eq_append_getElem hl, hc]
            intro c h
            rcases List.mem_append.1 h with h | h
            · exact HALL.out c h
            · rw [List.mem_singleton.1 h]; exact ⟨h0, h1⟩ : ∀ c ∈ s.data.toList.take (i + 1), 48 ≤ c.toNat ∧ c.toNat ≤ 57))
          clear hc
          generalize hcc : s[i] = cc at *
          have hcb := cc.toNat_lt
          by_cases c1 : (cc.toNat : Int) < 48
          · have HN := Lib.hid (BAD.out cc HMEM.out (.inl (by omega)))
            go_wp2_with fail
            go_ret2
            rw [HN.out]
            exact ⟨rfl, HK.out⟩
          by_cases c2 : 57 < (cc.toNat : Int)
          · have HN := Lib.hid (BAD.out cc HMEM.out (.inr (by omega)))
            go_wp2_with fail
            go_ret2
            rw [HN.out]
            exact ⟨rfl, HK.out⟩
          generalize hvv : valD 0 (s.data.toList.take i) = vv at *
          have e8 : IntKind.u8.wrap ((cc.toNat : Int) - 48) = (cc.toNat : Int) - 48 := IntWalk.u8_in _ (by omega)
          go_wp2_with fail
          go_roundg (gk - 1)
          case measure => omega
          case rel => exact ⟨⟨i + 1, by omega, by go_num, by rw [HNX.out], HAN.out (by omega) (by omega)⟩, HK.out⟩
        · obtain rfl : i = s.size := by omega
          have ht : s.data.toList.take s.size = s.data.toList := List.take_of_length_le (Nat.le_refl _)
          rw [ht] at HALL hv0 hv1 ⊢
          clear ht
          generalize hvv : valD 0 s.data.toList = vv at *
          have HV := Lib.hid (GOOD.out HALL.out)
          clear hvv
          have HW : Hid (wrap64 (vv) = vv) := Lib.hid (by unfold wrap64; omega)
          have HW2 : Hid (IntKind.i64.wrap (vv) = vv) := Lib.hid (IntWalk.i64_in _ (by omega))
          by_cases b0 : vv < -1000000000000
          · have HN := Lib.hid (HV.out.trans (if_neg (fun h => by omega)))
            have hw := HW.out
            go_wp2_with fail
            go_ret2
            rw [HN.out]
            exact ⟨rfl, HK.out⟩
          by_cases b1 : 1000000000000 < vv
          · have HN := Lib.hid (HV.out.trans (if_neg (fun h => by omega)))
            have hw := HW.out
            go_wp2_with fail
            go_ret2
            rw [HN.out]
            exact ⟨rfl, HK.out⟩
          have DG := Lib.hid (fun W => ref_digits (vv) W (by omega) (by omega))
          have hw := HW.out
          by_cases he : itoaB (vv) = s
          · have HN := Lib.hid (HV.out.trans (if_pos ⟨by omega, by omega, he⟩))
            have HE := Lib.hid he
            clear he
            go_wp2_with fail
            refine (DG.out _).mono ?_
            rintro e w2 ⟨rfl, hk2⟩
            have HK2 := Lib.hid (HK.out.trans hk2 (fun _ _ h => h))
            clear hk2
            rw [HE.out]
            go_wp2_with fail
            go_ret2
            rw [HN.out]
            exact ⟨rfl, HK2.out⟩
          · have HN := Lib.hid (HV.out.trans (if_neg (fun h => he h.2.2)))
            have hne2 : ((itoaB (vv)).toList == s.toList) = false := (by rw [ByteArray.toList_eq, ByteArray.toList_eq]; exact beq_eq_false_iff_ne.2 fun h => he (ByteArray.ext (Array.ext' h)))
            generalize itoaB (vv) = it at *
            go_wp2_with fail
            refine (DG.out _).mono ?_
            rintro e w2 ⟨rfl, hk2⟩
            have HK2 := Lib.hid (HK.out.trans hk2 (fun _ _ h => h))
            clear hk2
            go_wp2_with fail
            go_ret2
            rw [HN.out]
            exact ⟨rfl, HK2.out⟩
end Go.Proofs.YtekcjoogggoijaaGreatDoor
