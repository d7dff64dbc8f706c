/-
  The reference's Digits and Number.
-/
import Derived.Test.YtehpafebpgndeaaGreatDoorCachePlain
import Derived.Test.YtehpafebpgndeaaGreatDoorBytes
import Derived.Deep.LoopGhost
namespace Go.Proofs.YtehpafebpgndeaaGreatDoor
set_option linter.unusedVariables false
set_option linter.unusedSimpArgs false
set_option linter.unnecessarySimpa false
open Go.RowKit
set_option maxRecDepth 100000

/-- Digits under way: u is left, s stands already. -/
def DSt (U u : Nat) (s : List UInt8) : Prop := (s = [] ∧ u = U) ∨ (s ≠ [] ∧ (u = 0 → s = Lib.decDigits U) ∧ (u ≠ 0 → Lib.decDigits u ++ s = Lib.decDigits U))
theorem DSt.step {U u : Nat} {s : List UInt8} (h : DSt U u s) (hc : u ≠ 0 ∨ s = []) : DSt U (u / 10) (UInt8.ofNat (48 + u % 10) :: s) := by
  refine .inr ⟨by simp, fun h0 => ?_, fun h0 => ?_⟩
  · have hu : u < 10 := by omega
    have hd := dec_small hu
    rw [show u % 10 = u by omega]
    rcases h with ⟨rfl, rfl⟩ | ⟨hs, h1, h2⟩
    · exact hd.symm
    · have := h2 (hc.resolve_right hs)
      rw [hd] at this
      exact this
  · have hu : ¬ u < 10 := by omega
    have hd := dec_big hu
    rcases h with ⟨rfl, rfl⟩ | ⟨hs, h1, h2⟩
    · exact hd.symm
    · have := h2 (by omega)
      rw [hd, List.append_assoc] at this
      exact this
theorem DSt.fin {U u : Nat} {s : List UInt8} (h : DSt U u s) (h0 : u = 0) (hs : s ≠ []) : s = Lib.decDigits U := by
  rcases h with ⟨rfl, _⟩ | ⟨_, h1, _⟩
  · exact absurd rfl hs
  · exact h1 h0
def bytesOf (l : List UInt8) : ByteArray := ⟨l.toArray⟩
theorem bytesOf_app (c : Nat) (s : List UInt8) : strOfNums [(c : Int)] ++ bytesOf s = bytesOf (UInt8.ofNat c :: s) := by
  apply ByteArray.ext
  simp [strOfNums, bytesOf, ByteArray.data_append]
theorem bytesOf_eq (s : List UInt8) : (bytesOf s = ⟨#[]⟩) ↔ s = [] := by
  constructor
  · intro h
    have := congrArg (fun b : ByteArray => b.data.toList) h
    simpa [bytesOf] using this
  · rintro rfl
    rfl
theorem dec_len {u : Nat} (h : u ≤ 1000000000000) : (Lib.decDigits u).length ≤ 13 := by
  rw [Lib.decDigits_length]
  exact refNum_eq.few 12 u (by omega)
theorem DSt.len {U u : Nat} {s : List UInt8} (h : DSt U u s) (hU : U ≤ 1000000000000) : s.length ≤ 13 := by
  have h1 := dec_len hU
  rcases h with ⟨rfl, _⟩ | ⟨_, h2, h3⟩
  · simp
  · by_cases h0 : u = 0
    · rw [h2 h0]; exact h1
    · have := congrArg List.length (h3 h0)
      rw [List.length_append] at this
      omega

theorem bytesOf_empty {s : List UInt8} (h : s = []) : (bytesOf s).toList.isEmpty = true := by subst h; rw [ByteArray.toList_eq]; rfl
theorem bytesOf_some {s : List UInt8} (h : s ≠ []) : (bytesOf s).toList.isEmpty = false := by
  rw [ByteArray.toList_eq]
  cases s with
  | nil => exact absurd rfl h
  | cons c r => rfl
theorem bytesOf_size (s : List UInt8) : (bytesOf s).size = s.length := rfl
/-- Digits' loop. -/
def DLoop (w : World) (U gk : Nat) (sv uv : Value) (wr : World) : Prop := ∃ (u : Nat) (s : List UInt8), u ≤ U ∧ uv = .int .u64 (u : Int) ∧ sv = .string (bytesOf s) ∧ DSt U u s ∧ u + (if s = [] then 1 else 0) = gk ∧ Kept (fun _ => False) w wr

set_option maxHeartbeats 4000000 in
theorem ref_digits (v : Int) (w : World) (h0 : -1000000000000 ≤ v) (h1 : v ≤ 1000000000000) :
    Calls Tryz.prog 29 #[.int .i64 v] w fun e w' => e = .returned (.string (itoaB v)) ∧ Kept (fun _ => False) w w' := by
  have hUb : v.natAbs ≤ 1000000000000 := by omega
  by_cases hv : v < 0
  · have e1 : IntKind.u64.wrap v = 18446744073709551616 + v := by rw [IntKind.wrap_u64]; omega
    have e2 : IntKind.u64.wrap (-(18446744073709551616 + v)) = (v.natAbs : Int) := by rw [IntKind.wrap_u64]; omega
    have hit : itoaB v = ⟨#[45]⟩ ++ bytesOf (Lib.decDigits v.natAbs) := by
      apply ByteArray.ext
      unfold itoaB
      rw [itoa_neg hv]
      simp [bytesOf, ByteArray.data_append]
    have HIT := Lib.hid hit
    clear hit
    go_enter Tryz.func29, Tryz.ntmps29
    go_wp2_with fail
    go_loopg [3, 4] (v.natAbs + 1) (fun gk sv uv wr => DLoop w v.natAbs gk sv uv wr)
    case atStart => exact ⟨v.natAbs, [], Nat.le_refl _, rfl, rfl, .inl ⟨rfl, rfl⟩, by simp, Kept.refl _ _⟩
    case round =>
      obtain ⟨u, s, hub, rfl, rfl, hd, hm, hk⟩ := hrel
      by_cases hc : u ≠ 0 ∨ s = []
      · have HST := Lib.hid (hd.step hc)
        have hlen := hd.len hUb
        have HBS := Lib.hid (bytesOf_app (48 + u % 10) s)
        have HK := Lib.hid (fun o => hk.alloc o)
        have HUB := Lib.hid (show u / 10 ≤ v.natAbs by omega)
        have hsz := bytesOf_size s
        clear hd hk
        by_cases hu : u = 0
        · have hs := bytesOf_empty (hc.resolve_left (fun h => h hu))
          have HS2 := Lib.hid (show s = [] from hc.resolve_left (fun h => h hu))
          have hcv := conv_new wr [48]
          simp only [List.length_cons, List.length_nil, List.map_cons, List.map_nil, Nat.zero_add] at hcv
          have hz : (strOfNums [48]).size = 1 := strOfNums_size _
          clear hc
          subst hu
          go_wp2_with fail
          go_roundg 0
          case measure => rw [← hm, if_pos HS2.out]; omega
          case rel => exact ⟨0, _, Nat.zero_le _, rfl, by rw [show (48 : Int) = ((48 + 0 % 10 : Nat) : Int) from rfl, HBS.out], HST.out, by simp, HK.out _⟩
        · have hcv := conv_new wr [48 + (u : Int) % 10]
          simp only [List.length_cons, List.length_nil, List.map_cons, List.map_nil, Nat.zero_add] at hcv
          have hz : (strOfNums [48 + (u : Int) % 10]).size = 1 := strOfNums_size _
          have hm2 : u / 10 + 0 < gk := by rw [← hm]; omega
          have e3 : (48 + (u : Int) % 10) = ((48 + u % 10 : Nat) : Int) := by omega
          have E3 := Lib.hid e3
          clear e3 hm
          go_wp2_with fail
          go_roundg (u / 10)
          case measure => omega
          case rel => exact ⟨u / 10, _, HUB.out, by simp, by rw [E3.out, HBS.out], HST.out, by simp, HK.out _⟩
      · have hu : u = 0 := Classical.byContradiction fun h => hc (.inl h)
        have hsn : s ≠ [] := fun h => hc (.inr h)
        have hs := bytesOf_some hsn
        have HF := Lib.hid (hd.fin hu hsn)
        have HK := Lib.hid hk
        have hlen := hd.len hUb
        have hsz := bytesOf_size s
        clear hd hk hc hm hub hsn
        subst hu
        go_wp2_with fail
        go_ret
        refine ⟨?_, HK.out⟩
        rw [HIT.out, HF.out]
        rfl
  · have e1 : IntKind.u64.wrap v = (v.natAbs : Int) := by rw [IntKind.wrap_u64]; omega
    have hit : itoaB v = bytesOf (Lib.decDigits v.natAbs) := by
      apply ByteArray.ext
      unfold itoaB
      rw [itoa_pos hv, show v.toNat = v.natAbs by omega]
      rfl
    have HIT := Lib.hid hit
    clear hit
    go_enter Tryz.func29, Tryz.ntmps29
    go_wp2_with fail
    go_loopg [3, 4] (v.natAbs + 1) (fun gk sv uv wr => DLoop w v.natAbs gk sv uv wr)
    case atStart => exact ⟨v.natAbs, [], Nat.le_refl _, rfl, rfl, .inl ⟨rfl, rfl⟩, by simp, Kept.refl _ _⟩
    case round =>
      obtain ⟨u, s, hub, rfl, rfl, hd, hm, hk⟩ := hrel
      by_cases hc : u ≠ 0 ∨ s = []
      · have HST := Lib.hid (hd.step hc)
        have hlen := hd.len hUb
        have HBS := Lib.hid (bytesOf_app (48 + u % 10) s)
        have HK := Lib.hid (fun o => hk.alloc o)
        have HUB := Lib.hid (show u / 10 ≤ v.natAbs by omega)
        have hsz := bytesOf_size s
        clear hd hk
        by_cases hu : u = 0
        · have hs := bytesOf_empty (hc.resolve_left (fun h => h hu))
          have HS2 := Lib.hid (show s = [] from hc.resolve_left (fun h => h hu))
          have hcv := conv_new wr [48]
          simp only [List.length_cons, List.length_nil, List.map_cons, List.map_nil, Nat.zero_add] at hcv
          have hz : (strOfNums [48]).size = 1 := strOfNums_size _
          clear hc
          subst hu
          go_wp2_with fail
          go_roundg 0
          case measure => rw [← hm, if_pos HS2.out]; omega
          case rel => exact ⟨0, _, Nat.zero_le _, rfl, by rw [show (48 : Int) = ((48 + 0 % 10 : Nat) : Int) from rfl, HBS.out], HST.out, by simp, HK.out _⟩
        · have hcv := conv_new wr [48 + (u : Int) % 10]
          simp only [List.length_cons, List.length_nil, List.map_cons, List.map_nil, Nat.zero_add] at hcv
          have hz : (strOfNums [48 + (u : Int) % 10]).size = 1 := strOfNums_size _
          have hm2 : u / 10 + 0 < gk := by rw [← hm]; omega
          have e3 : (48 + (u : Int) % 10) = ((48 + u % 10 : Nat) : Int) := by omega
          have E3 := Lib.hid e3
          clear e3 hm
          go_wp2_with fail
          go_roundg (u / 10)
          case measure => omega
          case rel => exact ⟨u / 10, _, HUB.out, by simp, by rw [E3.out, HBS.out], HST.out, by simp, HK.out _⟩
      · have hu : u = 0 := Classical.byContradiction fun h => hc (.inl h)
        have hsn : s ≠ [] := fun h => hc (.inr h)
        have hs := bytesOf_some hsn
        have HF := Lib.hid (hd.fin hu hsn)
        have HK := Lib.hid hk
        have hlen := hd.len hUb
        have hsz := bytesOf_size s
        clear hd hk hc hm hub hsn
        subst hu
        go_wp2_with fail
        go_ret
        refine ⟨?_, HK.out⟩
        rw [HIT.out, HF.out]
        rfl
end Go.Proofs.YtehpafebpgndeaaGreatDoor
