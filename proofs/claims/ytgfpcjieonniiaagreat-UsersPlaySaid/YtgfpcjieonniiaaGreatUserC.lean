/-
  users.New: what it makes out of a list of users.
-/
import Derived.Test.YtgfpcjieonniiaaGreatUserB
import Derived.Test.YtgfpcjieonniiaaGreatClone
import Derived.Test.YtgfpcjieonniiaaGreatArgs
import Derived.Deep.RegionHeld3
namespace Go.Proofs.YtgfpcjieonniiaaGreat
set_option linter.unusedVariables false
set_option linter.unusedSimpArgs false
set_option linter.unnecessarySimpa false
open Go.RowKit Go.Maps

def userCells (x : ByteArray × ByteArray) : List Value := [.string x.1, .string x.2]
def freshUsr (x : ByteArray × ByteArray) (blk : Nat) : Usr := ⟨x.1, blk, x.2, 0, false, 0⟩

/-- May these users be? -/
def validB (l : List (ByteArray × ByteArray)) : Bool := decide (l.length ≤ 20) && l.all (fun x => rightB x.1 x.2) && decide ((l.map (·.1)).Nodup)

/-- L are these users, just made, in blocks from B on. -/
def Made (B : Nat) (l : List (ByteArray × ByteArray)) (L : List Usr) : Prop :=
  L.map (fun x => (x.name, x.secret)) = l ∧ ∀ x ∈ L, x.fails = 0 ∧ x.locked = false ∧ x.till = 0 ∧ B ≤ x.blk

def NewRes (w : World) (l : List (ByteArray × ByteArray)) (e : Ending) (w' : World) : Prop :=
  Kept (fun _ => False) w w' ∧
  if validB l then ∃ b m L, e = .returned (.tuple #[.pointer (some ⟨b, 0, none⟩), .int .i64 0]) ∧ UsersAt w' b m L ∧ Made w.heap.size l L ∧ w.heap.size ≤ b ∧ w.heap.size ≤ m
  else e = .returned (.tuple #[.pointer none, .int .i64 1])

theorem rd_user {w : World} {v : Value} {l : List (ByteArray × ByteArray)} {ao : Option Addr} {m c : Nat} (h : Rd w 2 l.length v (l.flatMap userCells)) (hv : v = .slice ao m c) (i : Nat) (hi : i < l.length) :
    ∃ g off, ao = some ⟨g, off, none⟩ ∧ w.cell? ⟨g, off + i * 2, none⟩ = some (.string (l[i]).1) ∧ w.cell? ⟨g, off + i * 2 + 1, none⟩ = some (.string (l[i]).2) := by
  subst hv
  obtain ⟨_, _, hc⟩ := h.at
  have f := fun j hj => flatMap_at (cells := userCells) (size := 2) (fun _ => rfl) l i hi j hj
  obtain ⟨g, off, rfl, h0⟩ := hc _ _ (f 0 (by omega))
  obtain ⟨g1, off1, e1, h1⟩ := hc _ _ (f 1 (by omega))
  injection e1 with e1; injection e1 with a1 b1; subst a1 b1
  exact ⟨g, off, rfl, by simpa using h0, by simpa [Nat.add_assoc] using h1⟩

theorem bytes_ext {a b : ByteArray} (h : a.data.toList = b.data.toList) : a = b := by
  apply ByteArray.ext
  apply Array.ext'
  exact h

/-- Behind users that may be, one that may not. -/
theorem bad_valid {B : Nat} {l : List (ByteArray × ByteArray)} {i : Nat} {nm sec : ByteArray} {L : List Usr} (hm : (nm, sec) ∈ l) (hmade : Made B (l.take i) L) (hx : l.take (i + 1) = l.take i ++ [(nm, sec)]) (hbad : ¬ (rightB nm sec = true ∧ findU L nm = none)) : validB l = false := by
  cases hv : validB l with
  | false => rfl
  | true =>
    exfalso
    simp only [validB, Bool.and_eq_true, decide_eq_true_eq, List.all_eq_true] at hv
    obtain ⟨⟨_, h2⟩, h3⟩ := hv
    refine hbad ⟨h2 _ hm, ?_⟩
    cases hf : findU L nm with
    | none => rfl
    | some y =>
      exfalso
      obtain ⟨hy, he⟩ := findU_some hf
      have hn := bytes_ext he
      have h4 : ((l.take (i + 1)).map (·.1)).Nodup := by
        have := List.Nodup.sublist ((List.take_sublist (i + 1) l).map (·.1)) h3
        exact this
      rw [hx, List.map_append, List.nodup_append] at h4
      refine h4.2.2 nm ?_ nm (by simp) rfl
      rw [← hmade.1, List.map_map]
      exact List.mem_map.2 ⟨y, hy, hn⟩

theorem made_added {B C v : Nat} {l : List (ByteArray × ByteArray)} {i : Nat} {nm sec : ByteArray} {L : List Usr} (hm : Made B (l.take i) L) (hx : l.take (i + 1) = l.take i ++ [(nm, sec)]) (hv : C ≤ v) (hB : B ≤ C) : Made B (l.take (i + 1)) (L ++ [freshUsr (nm, sec) v]) := by
  refine ⟨by rw [hx, List.map_append, hm.1]; rfl, fun x hxm => ?_⟩
  rcases List.mem_append.1 hxm with h | h
  · exact hm.2 x h
  · simp at h
    subst h
    exact ⟨rfl, rfl, rfl, Nat.le_trans hB hv⟩

/-- One user more. -/
theorem user_added {wc w2 : World} {b m : Nat} {L : List Usr} {nm sec : ByteArray} (h : UsersAt wc b m L) (hk : Kept (fun _ => False) wc w2) (hf : findU L nm = none) (hkey : keyOf Tryz.prog 9 (.string nm) = some (.string nm.data.toList)) (hL : L.length < maxLen) :
    UsersAt (mpW Tryz.prog 62 (w2.alloc (.cells #[.string sec, .int .i64 0, .bool false, .int .i64 0] 73)) m (.string nm) (.pointer (some ⟨w2.heap.size, 0, none⟩))) b m (L ++ [freshUsr (nm, sec) w2.heap.size]) ∧
      Kept (fun k => k = m) wc (mpW Tryz.prog 62 (w2.alloc (.cells #[.string sec, .int .i64 0, .bool false, .int .i64 0] 73)) m (.string nm) (.pointer (some ⟨w2.heap.size, 0, none⟩))) ∧ wc.heap.size ≤ w2.heap.size := by
  have hk3 := hk.alloc (.cells #[.string sec, .int .i64 0, .bool false, .int .i64 0] 73)
  have h3 := h.kept hk3 (fun _ _ h => h)
  have hnew := heap_alloc_new w2 (.cells #[.string sec, .int .i64 0, .bool false, .int .i64 0] 73)
  have hs2 := hk.size
  have hlt := fun k hk => h.lt (k := k) hk
  generalize w2.heap.size = v at *
  generalize w2.alloc (.cells #[.string sec, .int .i64 0, .bool false, .int .i64 0] 73) = W at *
  obtain ⟨_, hmp, hkm⟩ := h3.map.store_run (val := .pointer (some ⟨v, 0, none⟩)) skey Tryz.underlying62 hL hkey
  generalize mpW Tryz.prog 62 W m (.string nm) (.pointer (some ⟨v, 0, none⟩)) = w4 at *
  have hmv : m ≠ v := by have := hlt m (.inr (.inl rfl)); omega
  have hbv : b ≠ v := by have := hlt b (.inl rfl); omega
  have hnone : atName L (.string nm.data.toList) = none := by
    unfold findU at hf
    simp only [atName]
    rw [hf]; rfl
  rw [hnone] at hmp
  simp only [Option.isSome_none, Bool.false_eq_true, if_false] at hmp
  refine ⟨⟨(hkm.block b (lt_of_block h3.box) (fun e => h3.bm e)).trans h3.box, ?_, fun x hx => ?_, h.bm, fun x hx => ?_, ?_, ?_⟩, (hk3.mono (fun _ _ h => h.elim)).trans hkm (fun _ _ h => h), hs2⟩
  · rw [List.length_append, List.length_singleton]
    refine hmp.ext (fun kl => ?_)
    unfold upd
    by_cases hkl : kl = .string nm.data.toList
    · subst hkl
      rw [if_pos rfl]
      simp only [atName, List.find?_append]
      unfold findU at hf
      rw [hf]
      simp [freshUsr]
    · rw [if_neg hkl]
      cases kl with
      | string bs =>
        simp only [atName, List.find?_append]
        have : ((freshUsr (nm, sec) v).name.data.toList == bs) = false := by
          rw [beq_eq_false_iff_ne]
          intro e
          exact hkl (by rw [← e]; rfl)
        simp [this]
      | _ => rfl
  · rcases List.mem_append.1 hx with h' | h'
    · exact (hkm.block x.blk (lt_of_block (h3.user x h')) (h.xb x h').2).trans (h3.user x h')
    · simp at h'
      subst h'
      exact (hkm.block v (lt_of_block hnew) (fun e => hmv e.symm)).trans hnew
  · rcases List.mem_append.1 hx with h' | h'
    · exact h.xb x h'
    · simp at h'
      subst h'
      exact ⟨fun e => hbv e.symm, fun e => hmv e.symm⟩
  · rw [List.map_append, List.nodup_append]
    refine ⟨h.apart, by simp, fun a ha b' hb' => ?_⟩
    simp [freshUsr] at hb'
    subst hb'
    obtain ⟨x, hx, rfl⟩ := List.mem_map.1 ha
    have := hlt x.blk (.inr (.inr ⟨x, hx, rfl⟩))
    omega
  · rw [List.map_append, List.nodup_append]
    refine ⟨h.names, by simp, fun a ha b' hb' e => ?_⟩
    simp [freshUsr] at hb'
    subst hb'
    obtain ⟨x, hx, hxn⟩ := List.mem_map.1 ha
    unfold findU at hf
    have := List.find?_eq_none.1 hf x hx
    simp [hxn, e] at this

set_option maxRecDepth 100000 in
set_option maxHeartbeats 1600000 in
theorem new_any (v : Value) (l : List (ByteArray × ByteArray)) (w : World) (hl : Rd w 2 l.length v (l.flatMap userCells)) :
    Calls Tryz.prog 6 #[v] w (NewRes w l) := by
  obtain ⟨ao, cap, rfl, hcap⟩ := hl.shape
  by_cases c1 : (20 : Int) < l.length
  · have hv : validB l = false := by simp [validB]; intro h; omega
    have hfin : ∀ w', Kept (fun _ => False) w w' → NewRes w l (.returned (.tuple #[.pointer none, .int .i64 1])) w' := fun w' hk => ⟨hk, by rw [hv]; rfl⟩
    have HF := Lib.hid hfin
    clear hv hfin hl
    go_enter Tryz.func6, Tryz.ntmps6
    go_wp2_with fail
    go_ret2
    exact HF.out _ (Kept.refl _ _)
  have hn : l.length ≤ 20 := by omega
  have HL := Lib.hid (fun i hi => rd_user hl rfl i hi)
  clear hl c1
  obtain ⟨N, hN⟩ : ∃ N, N = l.length := ⟨_, rfl⟩
  rw [← hN] at hn hcap ⊢
  have HN := Lib.hid hN
  clear hN
  have hmm := @run_makeMap Tryz.prog
  have hat : UsersAt ((w.alloc (.map #[] 0)).alloc (.cells #[.map (some w.heap.size)] 64)) (w.heap.size + 1) w.heap.size [] := by
    refine ⟨?_, ?_, by simp, by omega, by simp, by simp, by simp⟩
    · have := heap_alloc_new (w.alloc (.map #[] 0)) (.cells #[.map (some w.heap.size)] 64)
      simpa using this
    · refine ((Mp.made w Tryz.prog 9).same (Below.heap_alloc _ _ _ (by simp))).ext (fun kl => ?_)
      cases kl <;> rfl
  have HU := Lib.hid hat
  clear hat
  go_enter Tryz.func6, Tryz.ntmps6
  go_wp2_with fail
  have hk0 : Kept (fun _ => False) w ((w.alloc (.map #[] 0)).alloc (.cells #[.map (some w.heap.size)] 64)) := ((Kept.refl _ w).alloc _).alloc _
  obtain ⟨b, hb, hb1⟩ : ∃ b, b = w.heap.size + 1 ∧ w.heap.size ≤ b := ⟨_, rfl, by omega⟩
  obtain ⟨m, hm, hm1⟩ : ∃ m, m = w.heap.size ∧ w.heap.size ≤ m := ⟨_, rfl, by omega⟩
  have hat := HU.out
  rw [← hb, ← hm] at hat
  rw [← hm] at hk0
  rw [← hb, ← hm]
  generalize (w.alloc (.map #[] 0)).alloc (.cells #[.map (some m)] 64) = W0 at *
  obtain ⟨B, hB⟩ : ∃ B, B = w.heap.size := ⟨_, rfl⟩
  rw [← hB] at hb1 hm1
  have HB := Lib.hid hB
  clear HU hb hm hmm hB
  go_loopw [15] (fun k wr => ∃ i : Nat, i ≤ N ∧ k = .int .i64 (i : Int) ∧ ∃ L, UsersAt wr b m L ∧ Made B (l.take i) L ∧ Kept (fun _ => False) w wr ∧ (l.take i).all (fun x => rightB x.1 x.2) = true) (fun k _ => N - (intOf k).toNat)
  case atStart => exact ⟨0, by omega, rfl, [], hat, ⟨rfl, by simp⟩, hk0, rfl⟩
  case round =>
    obtain ⟨i, hi, rfl, L, hu, hmade, hk, hall⟩ := hrel
    by_cases hlt : i < N
    · have hil : i < l.length := HN.out ▸ hlt
      obtain ⟨g, off, rfl, z0, z1⟩ := HL.out i hil
      have x0 := hk.cell0 z0
      have x1 := hk.cell0 z1
      have hlx : l.take (i + 1) = l.take i ++ [l[i]] := by rw [List.take_succ_eq_append_getElem hil]
      have hmem : l[i] ∈ l := List.getElem_mem hil
      rcases hli : l[i] with ⟨nm, sec⟩
      rw [hli] at x0 x1 hlx hmem
      simp only at x0 x1
      have HX := Lib.hid hlx
      have HM := Lib.hid hmem
      have HA := Lib.hid hall
      clear z0 z1 hlx hmem hall hli
      go_upto_region 7 with (fail)
      obtain ⟨xb, hxb⟩ : ∃ xb, xb = wr.heap.size := ⟨_, rfl⟩
      have hbx := heap_alloc_new wr (.cells #[.string nm, .string sec] 32)
      have huW := hu.kept ((Kept.refl (fun _ => False) wr).alloc (.cells #[.string nm, .string sec] 32)) (fun _ _ h => h)
      have hkW := hk.alloc (.cells #[.string nm, .string sec] 32)
      rw [← hxb] at hbx ⊢
      generalize wr.alloc (.cells #[.string nm, .string sec] 32) = W at *
      clear hu hk x0 x1 hxb
      have hlx := lt_of_block hbx
      have hlb := lt_of_block huW.box
      go_cut [31] (fun s wr2 => s = .bool (!rightB nm sec || (findU L nm).isSome) ∧ Kept (fun _ => False) W wr2)
      case first =>
        have k0 := cell_at hbx 0
        have k1 := cell_at hbx 1
        simp at k0 k1
        have hR := fun W => right_any nm sec W
        cases hRv : rightB nm sec with
        | false =>
          rw [hRv] at hR
          have HR := Lib.hid hR
          have HV := Lib.hid hRv
          clear hR hRv
          first | go_region_law (go_simp; go_at_call 7; refine (HR.out _).mono ?_; rintro e w1 ⟨rfl, hk1⟩) | fail
          all_goals
            go_wp2_with fail
            go_meet
            case rel => exact ⟨by rw [HV.out]; rfl, ((Kept.refl (fun _ => False) W).drew).trans hk1 (fun _ _ h => h)⟩
        | true =>
          rw [hRv] at hR
          have hnm : nm.size ≤ maxLen := by
            simp only [rightB, Bool.and_eq_true, decide_eq_true_eq] at hRv
            unfold maxLen; omega
          have hstep : ∀ w1, Kept (fun _ => False) W.drew w1 → w1.cell? ⟨b, 0, none⟩ = some (.map (some m)) ∧ w1.cell? ⟨xb, 0, none⟩ = some (.string nm) ∧ (Instr.lookup 62 (.map (some m)) (.string nm) false).run Tryz.prog w1 = .ok (userPtr (findU L nm)) w1 := by
            intro w1 hk1
            have hk2 := ((Kept.refl (fun _ => False) W).drew).trans hk1 (fun _ _ h => h)
            have hu1 := huW.kept hk2 (fun _ _ h => h)
            refine ⟨?_, hk2.cell0 k0, hu1.look nm hnm⟩
            have := cell_at hu1.box 0
            simpa using this
          have HR := Lib.hid hR
          have HS := Lib.hid hstep
          have HV := Lib.hid hRv
          clear hR hRv hstep
          cases hF : findU L nm with
          | none =>
            rw [hF] at HS
            have HF := Lib.hid hF
            clear hF
            first | go_region_law (go_simp; go_at_call 7; refine (HR.out _).mono ?_; rintro e w1 ⟨rfl, hk1⟩; obtain ⟨s1, s2, s3⟩ := HS.out w1 hk1; simp only [userPtr, Option.map_none] at s3) | fail
            all_goals
              go_wp2_with fail
              go_meet
              case rel => exact ⟨by rw [HV.out, HF.out]; rfl, ((Kept.refl (fun _ => False) W).drew).trans hk1 (fun _ _ h => h)⟩
          | some y =>
            rw [hF] at HS
            have HF := Lib.hid hF
            clear hF
            first | go_region_law (go_simp; go_at_call 7; refine (HR.out _).mono ?_; rintro e w1 ⟨rfl, hk1⟩; obtain ⟨s1, s2, s3⟩ := HS.out w1 hk1; simp only [userPtr, Option.map_some] at s3) | fail
            all_goals
              go_wp2_with fail
              go_meet
              case rel => exact ⟨by rw [HV.out, HF.out]; rfl, ((Kept.refl (fun _ => False) W).drew).trans hk1 (fun _ _ h => h)⟩
      case rest =>
        obtain ⟨rfl, hkc⟩ := hcut
        have huc := huW.kept hkc (fun _ _ h => h)
        have hbc := (hkc.block xb hlx (fun h => h)).trans hbx
        have hkwc := hkW.trans hkc (fun _ _ h => h)
        clear huW hbx hkW hkc hlx hlb
        by_cases hbad : rightB nm sec = true ∧ findU L nm = none
        · obtain ⟨hg1, hg2⟩ := hbad
          rw [hg1, hg2]
          simp only [Option.isSome_none, Bool.not_true, Bool.or_false]
          have hsz : nm.size ≤ 20 ∧ sec.size = 32 := by
            simp only [rightB, Bool.and_eq_true, decide_eq_true_eq] at hg1
            exact ⟨hg1.1.1.2, hg1.1.2⟩
          have HG := Lib.hid (And.intro hg1 hg2)
          clear hg1 hg2
          go_upto_region 9 with (fail)
          have k0 := cell_at hbc 0
          have k1 := cell_at hbc 1
          have q0 := cell_at huc.box 0
          simp at k0 k1 q0
          have hlb := lt_of_block huc.box
          have hlx := lt_of_block hbc
          have hL20 : L.length < maxLen := by
            have : L.length = (l.take i).length := by rw [← hmade.1, List.length_map]
            rw [List.length_take] at this
            unfold maxLen; omega
          have hkey := WideMaps.keyOf_string_mk Tryz.underlying9 (s := nm) (by unfold maxLen; omega)
          have hst : ∀ (W : World) (v : Value), Mp W Tryz.prog 9 m L.length (atName L) → (Instr.mapUpdate 62 (.map (some m)) (.string nm) v).run Tryz.prog W = .ok () (mpW Tryz.prog 62 W m (.string nm) v) := fun W v h => (h.store_run (val := v) skey Tryz.underlying62 hL20 hkey).1
          have hstep : ∀ w1, Kept (fun _ => False) wc.drew w1 → w1.cell? ⟨b, 0, none⟩ = some (.map (some m)) ∧ w1.cell? ⟨xb, 0, none⟩ = some (.string nm) ∧ w1.cell? ⟨xb, 1, none⟩ = some (.string sec) ∧ (∀ o, Mp (w1.alloc o) Tryz.prog 9 m L.length (atName L)) ∧ b < w1.heap.size ∧ xb < w1.heap.size := by
            intro w1 hk1
            have hk2 := ((Kept.refl (fun _ => False) wc).drew).trans hk1 (fun _ _ h => h)
            exact ⟨hk2.cell0 q0, hk2.cell0 k0, hk2.cell0 k1, fun o => huc.map.kept (hk2.alloc o) (fun h => h), Nat.lt_of_lt_of_le hlb hk2.size, Nat.lt_of_lt_of_le hlx hk2.size⟩
          have HS := Lib.hid hstep
          have C1 := Lib.hid (fun W => strings_clone nm W (by omega))
          have C2 := Lib.hid (fun W => strings_clone sec W (by omega))
          have HK := Lib.hid (And.intro hkey hL20)
          obtain ⟨hz1, hz2⟩ := hsz
          clear hstep hkey hL20 hbc
          first | go_region_law (go_simp; first | (go_at_call_of 24 (Value.string nm); refine (C1.out _).mono ?_; rintro e w1 ⟨rfl, hk1⟩; obtain ⟨s1, s2, s3, s4, s5, s6⟩ := HS.out w1 hk1; clear s4) | (go_at_call_of 24 (Value.string sec); refine (C2.out _).mono ?_; rintro e w2 ⟨rfl, hk2⟩; have hk3 := hk1.trans hk2 (fun _ _ h => h); obtain ⟨s1, s2, s3, s4, s5, s6⟩ := HS.out w2 hk3)) | fail
          all_goals
            go_wp2_with fail
            go_roundw
            case rel =>
              obtain ⟨u1, u2, u3⟩ := user_added huc (((Kept.refl (fun _ => False) wc).drew).trans hk3 (fun _ _ h => h)) HG.out.2 HK.out.1 HK.out.2 (sec := sec)
              refine ⟨i + 1, by omega, by go_num, _, u1, made_added hmade HX.out u3 (Nat.le_trans (HB.out ▸ Nat.le_refl _) hkwc.size), hkwc.trans u2 (fun k hk hs => by subst hs; have := HB.out; omega), ?_⟩
              rw [HX.out, List.all_append, HA.out]
              simp only [List.all_cons, List.all_nil, Bool.and_true]
              exact HG.out.1
            case measure => simp [intOf]; omega
        · have hbB : (!rightB nm sec || (findU L nm).isSome) = true := by
            cases h1 : rightB nm sec with
            | false => rfl
            | true =>
              cases h2 : findU L nm with
              | none => exact absurd ⟨h1, h2⟩ hbad
              | some y => rfl
          rw [hbB]
          have hnv : validB l = false := bad_valid HM.out hmade HX.out hbad
          have hfin : NewRes w l (.returned (.tuple #[.pointer none, .int .i64 1])) wc := ⟨hkwc, by rw [hnv]; rfl⟩
          have HF := Lib.hid hfin
          clear hfin hnv hbad hbB huc hkwc
          go_wp2_with fail
          go_ret2
          exact HF.out
    · obtain rfl : i = N := by omega
      have htk : l.take i = l := List.take_of_length_le (by have := HN.out; omega)
      rw [htk] at hall hmade
      have hfin : NewRes w l (.returned (.tuple #[.pointer (some ⟨b, 0, none⟩), .int .i64 0])) wr := by
        refine ⟨hk, ?_⟩
        have hv : validB l = true := by
          unfold validB
          rw [hall, decide_eq_true (by have := HN.out; omega), decide_eq_true (by
            have := hu.names
            rw [← hmade.1, List.map_map]
            exact this)]
          rfl
        rw [hv]
        exact ⟨b, m, L, rfl, hu, HB.out ▸ hmade, HB.out ▸ hb1, HB.out ▸ hm1⟩
      have HF := Lib.hid hfin
      clear hfin hall hmade hu hk htk
      go_wp2_with fail
      go_ret2
      exact HF.out
end Go.Proofs.YtgfpcjieonniiaaGreat
