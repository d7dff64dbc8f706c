/-
  The reference's cache: the walk of Keys.
-/
import Derived.Test.YtekcjoogggoijaaGreatDoorCp11
import Derived.Test.YtekcjoogggoijaaGreatDoorCp23
import Derived.Test.YtekcjoogggoijaaGreatDoorCp08
import Derived.Deep.Cut
import Derived.Deep.CutBlock
set_option linter.unusedVariables false
set_option linter.unusedSimpArgs false
set_option linter.unnecessarySimpa false
namespace Go.Proofs.YtekcjoogggoijaaGreatDoor
open Go.RowKit
set_option maxRecDepth 100000

/-- Where a key comes in a rising list. -/
def posOf (k : ByteArray) : List ByteArray → Nat
  | [] => 0
  | x :: l => if bltB x k then posOf k l + 1 else 0
def insK (k : ByteArray) : List ByteArray → List ByteArray
  | [] => [k]
  | x :: l => if bltB x k then x :: insK k l else k :: x :: l
theorem pos_le (k : ByteArray) : ∀ l, posOf k l ≤ l.length
  | [] => Nat.le_refl _
  | x :: l => by
    unfold posOf
    split
    · have := pos_le k l; simp; omega
    · simp
theorem pos_lt (k : ByteArray) : ∀ (l : List ByteArray) (j : Nat) (hj : j < l.length), j < posOf k l → bltB l[j] k = true
  | x :: l, 0, _, h => by
    unfold posOf at h
    split at h
    · assumption
    · omega
  | x :: l, j + 1, hj, h => by
    unfold posOf at h
    split at h
    · exact pos_lt k l j (by simpa using hj) (by omega)
    · omega
theorem pos_at (k : ByteArray) : ∀ (l : List ByteArray) (h : posOf k l < l.length), bltB (l[posOf k l]) k = false
  | x :: l, h => by
    by_cases hb : bltB x k = true
    · have e : posOf k (x :: l) = posOf k l + 1 := if_pos hb
      simp only [e] at h ⊢
      exact pos_at k l (by simpa using h)
    · have e : posOf k (x :: l) = 0 := if_neg hb
      simp only [e]
      simpa using hb
theorem ins_eq (k : ByteArray) : ∀ l, insK k l = l.take (posOf k l) ++ (k :: l.drop (posOf k l))
  | [] => rfl
  | x :: l => by
    by_cases hb : bltB x k = true
    · rw [show posOf k (x :: l) = posOf k l + 1 from if_pos hb, show insK k (x :: l) = x :: insK k l from if_pos hb, ins_eq k l]
      rfl
    · rw [show posOf k (x :: l) = 0 from if_neg hb, show insK k (x :: l) = k :: x :: l from if_neg hb]
      rfl
theorem ins_perm (k : ByteArray) (l : List ByteArray) : (insK k l).Perm (k :: l) := by
  rw [ins_eq]
  refine List.perm_middle.trans ?_
  rw [List.take_append_drop]
theorem ins_sorted (k : ByteArray) : ∀ l, l.Pairwise bytesLe → (insK k l).Pairwise bytesLe
  | [], _ => by simp [insK]
  | x :: l, h => by
    rw [List.pairwise_cons] at h
    by_cases hb : bltB x k = true
    · rw [show insK k (x :: l) = x :: insK k l from if_pos hb, List.pairwise_cons]
      refine ⟨fun y hy => ?_, ins_sorted k l h.2⟩
      rcases List.mem_cons.1 ((ins_perm k l).mem_iff.1 hy) with rfl | hy
      · unfold bltB at hb
        exact List.le_of_lt (of_decide_eq_true hb)
      · exact h.1 y hy
    · rw [show insK k (x :: l) = k :: x :: l from if_neg hb, List.pairwise_cons]
      have hkx : bytesLe k x := by
        unfold bltB at hb
        simpa [bytesLe] using hb
      refine ⟨fun y hy => ?_, List.pairwise_cons.2 h⟩
      rcases List.mem_cons.1 hy with rfl | hy
      · exact hkx
      · exact List.le_trans hkx (h.1 y hy)
theorem sort_ins (ks : List ByteArray) (k : ByteArray) : sortB (ks ++ [k]) = insK k (sortB ks) :=
  sortB_of_sorted ((ins_perm k _).trans (((sortB_perm ks).cons k).trans (List.perm_append_singleton k ks).symm)) (ins_sorted k _ (sortB_sorted ks))
theorem less_blt (x y : ByteArray) : Op.bytesLess x.toList y.toList = bltB x y := by
  unfold bltB
  rw [ByteArray.toList_eq, ByteArray.toList_eq, bytesLess_eq]

/-- The keys of the first i items, rising. -/
def keysAt (U : List It) (i : Nat) : List ByteArray := sortB (keys (U.take i))
theorem keysAt_len (U : List It) (i : Nat) (hi : i ≤ U.length) : (keysAt U i).length = i := by
  unfold keysAt keys
  rw [sortB_length, List.length_map, List.length_take]
  omega
theorem keysAt_succ (U : List It) (i : Nat) (hi : i < U.length) : keysAt U (i + 1) = insK (U[i]).key (keysAt U i) := by
  unfold keysAt keys
  rw [List.take_succ_eq_append_getElem hi, List.map_append]
  exact sort_ins _ _
end Go.Proofs.YtekcjoogggoijaaGreatDoor
namespace Go.Proofs.YtekcjoogggoijaaGreatDoor
open Go.RowKit
set_option maxRecDepth 100000

theorem strs_take (l : List ByteArray) (k : Nat) : (strs l).take k = strs (l.take k) := by unfold strs; rw [List.map_take]
theorem strs_drop (l : List ByteArray) (k : Nat) : (strs l).drop k = strs (l.drop k) := by unfold strs; rw [List.map_drop]
theorem strs_one (l : List ByteArray) : ∀ u ∈ strs l, u.oneCell' = true := by
  intro u hu
  obtain ⟨x, _, rfl⟩ := List.mem_map.1 hu
  rfl
theorem rd_new1 (W : World) (v : Value) (T : TypeId) : Rd (W.alloc (.cells #[v] T)) 1 1 (.slice (some ⟨W.heap.size, 0, none⟩) 1 1) [v] := rd_block (vs := [v]) (heap_alloc_new _ _) rfl

set_option maxHeartbeats 8000000 in
theorem refC_keys {w : World} {rc : Nat} {v : Value} {s : CSt} (h : RC w rc v s) (hn : s.U.length ≤ 1000000) :
    Calls Tryz.prog 38 #[.pointer (some ⟨rc, 0, none⟩)] w fun e w' => ∃ u, e = .returned u ∧ Strs w w' u (sortB (keys s.U)) := by
  obtain ⟨i0, hi0, hz0, hz1, hz2⟩ := info_parts str_info
  have k0 := h.cells.2.1
  obtain ⟨ao, ca, rfl, hca⟩ := (Rd.of_sl h.row).shape
  have HR := Lib.hid (fun (W : World) (hk : Kept (fun _ => False) w W) j hj => rd_it ((Rd.of_sl h.row).kept hk (fun _ _ h => h)) rfl j hj)
  have FIN := Lib.hid (show keysAt s.U s.U.length = sortB (keys s.U) by unfold keysAt; rw [List.take_of_length_le (Nat.le_refl _)])
  clear h
  generalize s.U = U at *
  obtain ⟨n, hnn⟩ : ∃ n, n = U.length := ⟨_, rfl⟩
  rw [← hnn] at hn hca k0 FIN
  have HN := Lib.hid hnn
  clear hnn
  go_enter Tryz.func38, Tryz.ntmps38
  go_wp2_with fail
  go_loopg [3, 4] n (fun gk u k wr => ∃ i : Nat, i + gk = n ∧ k = .int .i64 (i : Int) ∧ Strs w wr u (keysAt U i) ∧ (i = 0 → u = .slice none 0 0))
  case atStart => exact ⟨0, by omega, rfl, by rw [show keysAt U 0 = [] from List.length_eq_zero_iff.1 (keysAt_len U 0 (Nat.zero_le _))]; exact Strs.nil (Kept.refl _ _), fun _ => rfl⟩
  case round =>
    obtain ⟨i, hi, rfl, hst, hz⟩ := hrel
    have k1 := hst.2.1.cell0 k0
    by_cases hin : i < n
    · have hil : i < U.length := HN.out ▸ hin
      obtain ⟨g, off, rfl, x0, _, _, _⟩ := HR.out wr hst.2.1 i hil
      have NX := Lib.hid (keysAt_succ U i hil)
      have hlen : (keysAt U i).length = i := keysAt_len U i (by omega)
      generalize (U[i]'hil).key = key at *
      generalize keysAt U i = l at *
      have hpl := pos_le key l
      rw [hlen] at hpl
      have PL := Lib.hid (pos_lt key l)
      have PA := Lib.hid (pos_at key l)
      have IE := Lib.hid (ins_eq key l)
      obtain ⟨p, hp⟩ : ∃ p, p = posOf key l := ⟨_, rfl⟩
      rw [← hp] at hpl PL PA IE
      clear hp
      have hsl := hst.1
      rw [hlen] at hsl
      obtain ⟨ao1, ca1, rfl, hca1⟩ := (Rd.of_sl hsl).shape
      have HST := Lib.hid hst
      have HSL := Lib.hid hsl
      have HLEN := Lib.hid hlen
      have HI := Lib.hid hi
      have OUT := Lib.hid (fun (W : World) (hK : Kept (fun _ => False) wr W) (j : Nat) (hj : j < l.length) => show ∃ g off, ao1 = some ⟨g, off, none⟩ ∧ W.cell? ⟨g, off + j, none⟩ = some (.string l[j]) by
        obtain ⟨_, _, hc⟩ := ((Rd.of_sl hsl).kept hK (fun _ _ h => h)).at
        exact hc j (.string l[j]) (by unfold strs; simp [hj]))
      clear hst hsl hlen hi
      obtain ⟨Wr, hWr⟩ : ∃ Wr, Wr = wr := ⟨_, rfl⟩
      have KW := Lib.hid (show Kept (fun _ => False) Wr wr by rw [hWr]; exact Kept.refl _ _)
      rw [← hWr] at HST HSL OUT k1 x0
      rw [← hWr]
      clear hWr
      go_upto_block 2 with fail
      go_cut [5] (fun k wx => k = .int .i64 (p : Int) ∧ Kept (fun _ => False) Wr wx)
      case first =>
        go_wp2_with fail
        go_loopg [5] p (fun gj k wx => ∃ j : Nat, j + gj = p ∧ k = .int .i64 (j : Int) ∧ Kept (fun _ => False) Wr wx)
        case atStart => exact ⟨0, by omega, rfl, Kept.refl _ _⟩
        case round =>
          obtain ⟨j, hj, rfl, hkj⟩ := hrel
          have k2 := hkj.cell0 k1
          have y0 := hkj.cell0 x0
          have HKJ := Lib.hid hkj
          by_cases hjp : j < p
          · have hjl : j < l.length := by rw [HLEN.out]; omega
            obtain ⟨g1, off1, rfl, z0⟩ := OUT.out wr hkj j hjl
            have hless : Op.bytesLess (l[j]'hjl).toList key.toList = true := by rw [less_blt]; exact PL.out j hjl hjp
            generalize l[j]'hjl = kj at *
            have hd1 : decide (j < i) = true := decide_eq_true (by omega)
            have HJ := Lib.hid hj
            have HJP := Lib.hid hjp
            have hji : (j : Int) < (i : Int) := by omega
            have hin' : (i : Int) < (n : Int) := by omega
            clear hkj hj hjp
            go_wp2_with fail
            go_quiet (fail)
            all_goals
              go_wp2_with fail
              go_roundg (gk - 1)
              case measure => have := HJ.out; have := HJP.out; omega
              case rel => exact ⟨j + 1, by have := HJ.out; have := HJP.out; omega, by go_num, HKJ.out.drewN _⟩
          · obtain rfl : j = p := by omega
            by_cases hjl : j < l.length
            · obtain ⟨g1, off1, rfl, z0⟩ := OUT.out wr hkj j hjl
              have hless : Op.bytesLess (l[j]'hjl).toList key.toList = false := by rw [less_blt]; exact PA.out hjl
              have hji : j < i := by rw [← HLEN.out]; exact hjl
              generalize l[j]'hjl = kj at *
              have hd1 : decide (j < i) = true := decide_eq_true hji
              have hji' : (j : Int) < (i : Int) := by omega
              have hin' : (i : Int) < (n : Int) := by omega
              clear hkj hj hjp hjl
              go_wp2_with fail
              go_quiet (fail)
              all_goals
                go_wp2_with fail
                go_meet
                case rel => exact ⟨rfl, HKJ.out.drewN _⟩
            · have hji : ¬ j < i := by rw [← HLEN.out]; exact hjl
              have hd1 : decide (j < i) = false := decide_eq_false hji
              clear hkj hj hjp hjl hji
              go_wp2_with fail
              go_quiet (fail)
              all_goals
                go_wp2_with fail
                go_meet
                case rel => exact ⟨rfl, HKJ.out.drewN _⟩
      case rest =>
        obtain ⟨rfl, hkc⟩ := hcut
        have k1c := hkc.cell0 k1
        have x0c := hkc.cell0 x0
        have KC := Lib.hid hkc
        have k1d := (hkc.alloc (.cells #[.string key] 9)).cell0 k1
        have x0d := (hkc.alloc (.cells #[.string key] 9)).cell0 x0
        have one1 : ∀ u ∈ [Value.string key], u.oneCell' = true := by simp [Value.oneCell']
        have RN2 := Lib.hid (fun W : World => rd_new1 W (.string key) 9)
        have RN1 := Lib.hid (fun (W : World) (hK : Kept (fun _ => False) (wc.drew.alloc (.cells #[.string key] 9)) W) => show Rd W 1 1 (.slice (some ⟨wc.heap.size, 0, none⟩) 1 1) [.string key] from (RN2.out wc.drew).kept hK (fun _ _ h => h))
        have hin' : (i : Int) < (n : Int) := by omega
        clear hkc
        by_cases hi0' : i = 0
        · have h0 := hz hi0'
          subst hi0'
          simp only [Nat.zero_mul, Nat.add_zero] at x0 x0c x0d
          injection h0 with e1 e2 e3
          subst e1 e3
          obtain rfl : p = 0 := by omega
          have hl : l = [] := List.length_eq_zero_iff.1 HLEN.out
          have A1 := Lib.hid (fun (W : World) (hK : Kept (fun _ => False) Wr W) => show Rd W 1 0 (.slice none 0 0) (strs []) from ⟨rfl, none, 0, rfl, Nat.le_refl _, fun j u hu => by simp [strs] at hu⟩)
          have A2 := A1
          have LL := Lib.hid (show (insK key l).length = 0 + 1 + 0 by rw [hl]; rfl)
          have CC := Lib.hid (show strs (insK key l) = strs [] ++ [.string key] ++ strs [] by rw [hl]; rfl)
          have O1 := strs_one []
          have O2 := strs_one []
          have b1 : 0 ≤ maxLen := Nat.zero_le _
          have b2 : 0 * 16 ≤ 140737488355328 := by omega
          have b3 : 0 + 1 ≤ maxLen := by unfold maxLen; omega
          have b4 : (0 + 1) * 16 ≤ 140737488355328 := by omega
          have b5 : 0 + 1 + 0 ≤ maxLen := by unfold maxLen; omega
          have b6 : (0 + 1 + 0) * 16 ≤ 140737488355328 := by omega
          have h0n : (0 : Int) < (n : Int) := by omega
          have h0n2 : 0 < n := hin
          clear hz hl hca1 hpl
          go_wp2_with fail
          go_region_law (first
            | (refine step_append_new _ rfl (.const (.slice none 0 0)) (.tmp 38) 49 rfl 9 i0 _ 1 16 Tryz.underlying49 hi0 hz0 hz1 hz2 rfl (by decide) (by kernel_rfl) _ 0 (strs []) (by kernel_rfl) (A1.out _ (by first | exact KC.out.drew | exact (KC.out.drew).alloc _ | exact (KC.out.alloc _).drew)) O1 b1 b2 ?_; intro ao3 cap3 w3 h1 h2 h3; have K3 := Lib.hid (show Kept (fun _ => False) Wr w3 from (by first | exact (KC.out.drew).trans h2 (fun _ _ h => h) | exact ((KC.out.drew).alloc _).trans h2 (fun _ _ h => h) | exact ((KC.out.alloc _).drew).trans h2 (fun _ _ h => h))); have S3 := Lib.hid h1; have N3 := Lib.hid (show ∀ j, (Value.slice ao3 0 cap3).ownBlock = some j → wc.heap.size ≤ j from fun j hj => by have := h3 j hj; first | exact this | (simp at this; omega)); have H2 := Lib.hid h2; have k3 := K3.out.cell0 k1; have y3 := K3.out.cell0 x0; clear h1 h2 h3)
            | (refine step_append_any _ rfl (.tmp 39) (.tmp 48) 49 rfl 9 i0 _ 1 16 Tryz.underlying49 hi0 hz0 hz1 hz2 rfl (by decide) (.slice ao3 0 cap3) 0 (strs []) (by kernel_rfl) (by first | exact S3.out | exact S3.out.alloc _) _ 1 [.string key] (by kernel_rfl) (by first | exact RN1.out _ H2.out | exact RN2.out _) one1 b3 b4 ?_; intro ao4 cap4 w4 h1 h2 h3; have K4 := Lib.hid (show Kept (fun _ => False) Wr w4 from (by first | exact K3.out.trans h2 (fun k hk e => by have := N3.out k e; have := KC.out.size; omega) | exact (K3.out.alloc _).trans h2 (fun k hk e => by have := N3.out k e; have := KC.out.size; omega))); have S4 := Lib.hid h1; have KC3 := Lib.hid (show wc.heap.size ≤ w3.heap.size from by have := H2.out.size; first | omega | (simp at this; omega)); have N4 := Lib.hid (show ∀ j, (Value.slice ao4 (0 + 1) cap4).ownBlock = some j → wc.heap.size ≤ j from fun j hj => (h3 j hj).elim (fun e => N3.out j e) (fun e => by have := KC3.out; first | omega | (simp at e; omega))); have KC4 := Lib.hid (show wc.heap.size ≤ w4.heap.size from by have hz4 := h2.size; have hz3 := KC3.out; first | omega | (simp at hz4; omega)); have k4 := K4.out.cell0 k1; have y4 := K4.out.cell0 x0; clear h1 h2 h3)
            | (refine step_append_any _ rfl (.tmp 49) (.tmp 52) 49 rfl 9 i0 _ 1 16 Tryz.underlying49 hi0 hz0 hz1 hz2 rfl (by decide) (.slice ao4 (0 + 1) cap4) (0 + 1) (strs [] ++ [.string key]) (by kernel_rfl) S4.out _ 0 (strs []) (by kernel_rfl) (A2.out _ K4.out) O2 b5 b6 ?_; intro ao5 cap5 w5 h1 h2 h3; have K5 := Lib.hid (show Kept (fun _ => False) Wr w5 from K4.out.trans h2 (fun k hk e => by have := N4.out k e; have := KC.out.size; omega)); have S5 := Lib.hid h1; have N5 := Lib.hid (show ∀ j, (Value.slice ao5 (0 + 1 + 0) cap5).ownBlock = some j → wc.heap.size ≤ j from fun j hj => (h3 j hj).elim (fun e => N4.out j e) (fun e => by have := KC4.out; omega)); clear h1 h2 h3))
          all_goals
            go_wp2_with fail
            go_roundg (n - 0 - 1)
            case measure => have := HI.out; omega
            case rel =>
              refine ⟨1, by have := HI.out; omega, by go_num, ?_, fun e => by omega⟩
              rw [NX.out]
              refine ⟨?_, HST.out.2.1.trans K5.out (fun _ _ h => h), fun k hk => ?_⟩
              · rw [LL.out, CC.out]
                exact S5.out
              · have := N5.out k hk
                have := KC.out.size
                have := HST.out.2.1.size
                omega
        · obtain ⟨g1, off1, cp1, hv1, hcp1, _, _⟩ := (Rd.of_sl HSL.out).base (by omega) (by omega)
          injection hv1 with e1 _ e3
          subst e1 e3
          have hrow := Rd.of_sl HSL.out
          have A1 := Lib.hid (show ∀ W, Kept (fun _ => False) Wr W → Rd W 1 p (.slice (some ⟨g1, off1, none⟩) p ca1) (strs (l.take p)) from fun W hK => by
            have := (hrow.kept hK (fun _ _ h => h)).cut 0 p ca1 (by omega) (by omega) (by omega)
            rw [← strs_take]
            simpa using this)
          obtain ⟨bd, hbd, hA2⟩ : ∃ bd : Addr, (if ca1 = p then some (⟨g1, off1, none⟩ : Addr) else some ⟨g1, off1 + p, none⟩) = some bd ∧ ∀ W, Kept (fun _ => False) Wr W → Rd W 1 (i - p) (.slice (some bd) (i - p) (ca1 - p)) (strs (l.drop p)) := by
            by_cases hc : ca1 = p
            · refine ⟨_, if_pos hc, fun W hK => ?_⟩
              have h0 : i - p = 0 := by omega
              have h1 : l.drop p = [] := List.drop_of_length_le (by have := HLEN.out; omega)
              rw [h0, h1]
              exact ⟨rfl, _, _, rfl, Nat.zero_le _, fun j u hu => by simp [strs] at hu⟩
            · refine ⟨_, if_neg hc, fun W hK => ?_⟩
              have := (hrow.kept hK (fun _ _ h => h)).cut p i (ca1 - p) (by omega) (by omega) (by omega)
              rw [← strs_drop]
              rw [Nat.mul_one, Nat.mul_one] at this
              rwa [List.take_of_length_le (by rw [List.length_drop]; have := hrow.1; omega)] at this
          have A2 := Lib.hid hA2
          have LL := Lib.hid (show (insK key l).length = p + 1 + (i - p) by rw [IE.out, List.length_append, List.length_cons, List.length_take, List.length_drop, HLEN.out]; omega)
          have CC := Lib.hid (show strs (insK key l) = strs (l.take p) ++ [.string key] ++ strs (l.drop p) by rw [IE.out]; unfold strs; simp)
          have O1 := strs_one (l.take p)
          have O2 := strs_one (l.drop p)
          generalize l.take p = La at *
          generalize l.drop p = Lb at *
          have b1 : p ≤ maxLen := by unfold maxLen; omega
          have b2 : p * 16 ≤ 140737488355328 := by omega
          have b3 : p + 1 ≤ maxLen := by unfold maxLen; omega
          have b4 : (p + 1) * 16 ≤ 140737488355328 := by omega
          have b5 : p + 1 + (i - p) ≤ maxLen := by unfold maxLen; omega
          have b6 : (p + 1 + (i - p)) * 16 ≤ 140737488355328 := by omega
          have c1 : (0 : Int) ≤ (p : Int) := by omega
          have c2 : (p : Int) ≤ (ca1 : Int) := by omega
          have c3 : (p : Int) ≤ (i : Int) := by omega
          have c4 : (i : Int) ≤ (ca1 : Int) := by omega
          clear hz hA2 hrow hi0'
          go_wp2_with fail
          go_region_law (first
            | (refine step_append_new _ rfl (.const (.slice none 0 0)) (.tmp 38) 49 rfl 9 i0 _ 1 16 Tryz.underlying49 hi0 hz0 hz1 hz2 rfl (by decide) (by kernel_rfl) _ p (strs La) (by kernel_rfl) (A1.out _ (by first | exact KC.out.drew | exact (KC.out.drew).alloc _ | exact (KC.out.alloc _).drew)) O1 b1 b2 ?_; intro ao3 cap3 w3 h1 h2 h3; have K3 := Lib.hid (show Kept (fun _ => False) Wr w3 from (by first | exact (KC.out.drew).trans h2 (fun _ _ h => h) | exact ((KC.out.drew).alloc _).trans h2 (fun _ _ h => h) | exact ((KC.out.alloc _).drew).trans h2 (fun _ _ h => h))); have S3 := Lib.hid h1; have N3 := Lib.hid (show ∀ j, (Value.slice ao3 p cap3).ownBlock = some j → wc.heap.size ≤ j from fun j hj => by have := h3 j hj; first | exact this | (simp at this; omega)); have H2 := Lib.hid h2; have k3 := K3.out.cell0 k1; have y3 := K3.out.cell0 x0; clear h1 h2 h3)
            | (refine step_append_any _ rfl (.tmp 39) (.tmp 48) 49 rfl 9 i0 _ 1 16 Tryz.underlying49 hi0 hz0 hz1 hz2 rfl (by decide) (.slice ao3 p cap3) p (strs La) (by kernel_rfl) (by first | exact S3.out | exact S3.out.alloc _) _ 1 [.string key] (by kernel_rfl) (by first | exact RN1.out _ H2.out | exact RN2.out _) one1 b3 b4 ?_; intro ao4 cap4 w4 h1 h2 h3; have K4 := Lib.hid (show Kept (fun _ => False) Wr w4 from (by first | exact K3.out.trans h2 (fun k hk e => by have := N3.out k e; have := KC.out.size; omega) | exact (K3.out.alloc _).trans h2 (fun k hk e => by have := N3.out k e; have := KC.out.size; omega))); have S4 := Lib.hid h1; have KC3 := Lib.hid (show wc.heap.size ≤ w3.heap.size from by have := H2.out.size; first | omega | (simp at this; omega)); have N4 := Lib.hid (show ∀ j, (Value.slice ao4 (p + 1) cap4).ownBlock = some j → wc.heap.size ≤ j from fun j hj => (h3 j hj).elim (fun e => N3.out j e) (fun e => by have := KC3.out; first | omega | (simp at e; omega))); have KC4 := Lib.hid (show wc.heap.size ≤ w4.heap.size from by have hz4 := h2.size; have hz3 := KC3.out; first | omega | (simp at hz4; omega)); have k4 := K4.out.cell0 k1; have y4 := K4.out.cell0 x0; clear h1 h2 h3)
            | (refine step_append_any _ rfl (.tmp 49) (.tmp 52) 49 rfl 9 i0 _ 1 16 Tryz.underlying49 hi0 hz0 hz1 hz2 rfl (by decide) (.slice ao4 (p + 1) cap4) (p + 1) (strs La ++ [.string key]) (by kernel_rfl) S4.out _ (i - p) (strs Lb) (by kernel_rfl) (A2.out _ K4.out) O2 b5 b6 ?_; intro ao5 cap5 w5 h1 h2 h3; have K5 := Lib.hid (show Kept (fun _ => False) Wr w5 from K4.out.trans h2 (fun k hk e => by have := N4.out k e; have := KC.out.size; omega)); have S5 := Lib.hid h1; have N5 := Lib.hid (show ∀ j, (Value.slice ao5 (p + 1 + (i - p)) cap5).ownBlock = some j → wc.heap.size ≤ j from fun j hj => (h3 j hj).elim (fun e => N4.out j e) (fun e => by have := KC4.out; omega)); clear h1 h2 h3))
          all_goals
            go_wp2_with fail
            go_roundg (n - i - 1)
            case measure => have := HI.out; omega
            case rel =>
              refine ⟨i + 1, by have := HI.out; omega, by go_num, ?_, fun e => by omega⟩
              rw [NX.out]
              refine ⟨?_, HST.out.2.1.trans K5.out (fun _ _ h => h), fun k hk => ?_⟩
              · rw [LL.out, CC.out]
                exact S5.out
              · have := N5.out k hk
                have := KC.out.size
                have := HST.out.2.1.size
                omega
    · obtain rfl : i = n := by omega
      have HST := Lib.hid hst
      rw [FIN.out] at HST
      have hlen : (sortB (keys U)).length = i := by rw [← FIN.out]; exact keysAt_len U i (by have := HN.out; omega)
      obtain ⟨ao1, ca1, rfl, _⟩ := (Rd.of_sl hst.1).shape
      clear hst hz
      go_wp2_with fail
      go_ret
      exact ⟨_, rfl, HST.out⟩
end Go.Proofs.YtekcjoogggoijaaGreatDoor
