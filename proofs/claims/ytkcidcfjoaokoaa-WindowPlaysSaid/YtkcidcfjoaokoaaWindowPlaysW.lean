/-
  The law WindowPlays: the walk of the law itself.
-/
import Derived.Test.YtkcidcfjoaokoaaWindowPlays
import Derived.Deep.Cut
namespace Go.Proofs.Ytkcidcfjoaokoaa
set_option linter.unusedVariables false
set_option linter.unusedSimpArgs false
set_option linter.unnecessarySimpa false
open Go.RowKit Go.Maps
set_option maxRecDepth 100000

theorem intB2_info : (Try.prog.info? 3).map (fun i => (i.zero, i.size, i.bytes)) = some (some (.int .i64 0), 1, 8) := by kernel_rfl

set_option maxHeartbeats 16000000 in
theorem windowPlays_walk (ask : Int) (v : Value) (l : List Int) (w : World) (ha0 : -9223372036854775808 ≤ ask) (ha1 : ask ≤ 9223372036854775807) (hl : Rd w 1 l.length v (l.map (Value.int .i64))) (hb : ∀ x ∈ l, -9223372036854775808 ≤ x ∧ x ≤ 9223372036854775807) :
    Calls Try.prog 4 #[v, .int .i64 ask] w fun e w' => e = .returned (.bool true) ∧ Kept (fun _ => False) w w' := by
  obtain ⟨i0, hi0, hz0, hz1, hz2⟩ := info_parts intB2_info
  obtain ⟨ao, cap, rfl, hcap⟩ := hl.shape
  have HL := Lib.hid hl
  have HBD := Lib.hid hb
  clear hl hb
  obtain ⟨N, hN⟩ : ∃ N, N = l.length := ⟨_, rfl⟩
  rw [← hN] at hcap ⊢
  have HN := Lib.hid hN
  clear hN
  by_cases c1 : (200 : Int) < N
  · go_enter Try.func4, Try.ntmps4
    go_wp2_with (go_at_call 8; refine (alive_any _).mono ?_; rintro e w1 ⟨rfl, hk1⟩)
    go_ret
    exact ⟨rfl, hk1⟩
  have d1 : N ≤ 200 := by omega
  clear c1
  go_enter Try.func4, Try.ntmps4
  go_wp2_with fail
  refine (alive_any _).mono ?_
  rintro e w1 ⟨rfl, hk1⟩
  have HK1 := Lib.hid hk1
  clear hk1
  have hmm := @run_makeMap Try.prog
  go_wp2_with fail
  have ST := Lib.hid (PlayW.start HK1.out rfl)
  clear hmm
  go_loopg [6, 9] N (fun gk nx k wr => ∃ i : Nat, i + gk = N ∧ k = .int .i64 (i : Int) ∧ ∃ next mo cnt S Had mc F Ls, nx = .int .i64 next ∧ PlayW w wr w1.heap.size (w1.heap.size + 1) (w1.heap.size + 1 + 1) i next mo cnt S Had mc F Ls ∧ Ls.length ≤ i)
  case atStart => exact ⟨0, by omega, rfl, 0, none, 0, _, _, 0, _, [], rfl, ST.out, by simp⟩
  case round =>
    clear ST HK1
    generalize w1.heap.size + 1 + 1 = kb at *
    generalize w1.heap.size + 1 = hb at *
    generalize w1.heap.size = b at *
    obtain ⟨i, hi, rfl, next, mo, cnt, S, Had, mc, F, Ls, rfl, hp, hq⟩ := hrel
    have n1 := hp.n1
    have c1 := hp.c1
    have m1 := hp.m1
    have n0 := hp.win.2.1
    by_cases hlt : i < N
    · have hil : i < l.length := HN.out ▸ hlt
      obtain ⟨_, _, hce⟩ := HL.out.at
      obtain ⟨g, off, rfl, z0⟩ := hce i (.int .i64 l[i]) (by simp [hil])
      have hx := HBD.out _ (List.getElem_mem hil)
      have x0 := hp.tri.kept.cell0 z0
      clear hce
      generalize l[i] = x at *
      have HM := Lib.hid (hp.may x)
      have HP := Lib.hid hp
      have HQ := Lib.hid hq
      have hlk := had_look hp.map x hx.1 hx.2
      have hx0 := hx.1
      have hx1 := hx.2
      have Z0 := Lib.hid z0
      clear hp hq hx z0
      go_upto_region 10 with fail
      go_cut [10] (fun m w' => m = .bool (mayB next S x) ∧ w' = wr)
      case first =>
        by_cases a1 : next ≤ x
        · by_cases a2 : x < next + 64
          · cases a3 : Had x with
            | true =>
              have e : mayB next S x = false := by rw [HM.out, a3]; simp
              rw [a3] at hlk
              go_wp2_with fail
              go_meet
              case rel => exact ⟨by rw [e], rfl⟩
            | false =>
              have e : mayB next S x = true := by rw [HM.out, a3, decide_eq_true a1, decide_eq_true a2]; rfl
              rw [a3] at hlk
              go_wp2_with fail
              go_meet
              case rel => exact ⟨by rw [e], rfl⟩
          · have e : mayB next S x = false := by rw [HM.out, decide_eq_false a2]; simp
            go_wp2_with fail
            go_meet
            case rel => exact ⟨by rw [e], rfl⟩
        · have e : mayB next S x = false := by rw [HM.out, decide_eq_false a1]; simp
          go_wp2_with fail
          go_meet
          case rel => exact ⟨by rw [e], rfl⟩
      case rest =>
        obtain ⟨rfl, rfl⟩ := hcut
        have MAYM := Lib.hid (may_st b next mo cnt S x _ HP.out.win hx0 hx1)
        have TAKE := Lib.hid (take_any b next mo cnt S x _ HP.out.win (by omega) (by omega) hx0 hx1)
        have NO := Lib.hid (fun (w2 : World) (hm : mayB next S x = false) (ht : TakeRes _ w2 b next mo cnt S x) => HP.out.no hm ht)
        have YES := Lib.hid (fun (w2 : World) (hm : mayB next S x = true) (ht : TakeRes _ w2 b next mo cnt S x) => HP.out.yes hm ht)
        have HKEPT := Lib.hid (fun (w2 : World) mo' cnt' (h : PlayW w w2 b hb kb (i + 1) next mo' cnt' S Had mc F Ls) => h.tri.kept)
        have hcm : mc < maxLen := by unfold maxLen; omega
        have HKEY := Lib.hid (keyOf_int_mk Try.underlying3 (show (Lit.int .i64 x).wf = true from by simp only [Lit.wf, Bool.and_eq_true, decide_eq_true_eq]; exact ⟨hx0, hx1⟩))
        generalize mayB next S x = mm at *
        clear hlk HM
        go_wp2_with fail
        refine MAYM.out.mono ?_
        rintro e w3 ⟨rfl, rfl⟩
        go_wp2_with fail
        refine TAKE.out.mono ?_
        rintro e w4 ⟨rfl, ht⟩
        clear MAYM TAKE x0
        rcases Bool.eq_false_or_eq_true mm with hm | hm
        case' inl =>
          obtain ⟨n', mo', cnt', S', gw, gm, g1, g2, g3, gk4, MK⟩ := YES.out _ hm ht
          have x0 := gk4.cell0 Z0.out
          have MK := Lib.hid MK
          have G3 := Lib.hid g3
          subst hm
          clear ht gw g3 gk4 YES NO
          go_wp2_with (at_mapUpdate; refine wpList_store_mp _ rfl (.tmp 77) (.tmp 81) (.const (.bool true)) rfl ikey Try.underlying30 rfl gm hcm (.int .i64 x) (.bool true) (.int .i64 x) rfl rfl HKEY.out ?_; intro w5 hmp5 hk5; have HMP5 := Lib.hid hmp5; have HK5 := Lib.hid hk5; clear hmp5 hk5; simp only [Act.put])
          have NP := Lib.hid (show ∃ W n' mo' cnt' S' Had' mc', PlayW w W b hb kb (i + 1) n' mo' cnt' S' Had' mc' F Ls ∧ W = w5 ∧ next ≤ n' ∧ n' ≤ next + 64 ∧ ∀ y, next ≤ y → y < n' → Had' y = true from ⟨_, _, _, _, _, _, _, MK.out w5 _ (store_set HMP5.out) (by split <;> omega) HK5.out, rfl, g1, g2, G3.out⟩)
        case' inr =>
          have NP := Lib.hid (show ∃ W n' mo' cnt' S' Had' mc', PlayW w W b hb kb (i + 1) n' mo' cnt' S' Had' mc' F Ls ∧ W = w4 ∧ next ≤ n' ∧ n' ≤ next + 64 ∧ ∀ y, next ≤ y → y < n' → Had' y = true from by
            obtain ⟨mo', cnt', h4⟩ := NO.out _ hm ht
            exact ⟨_, _, _, _, _, _, _, h4, rfl, by omega, by omega, fun y h1 h2 => by omega⟩)
          subst hm
          clear ht YES NO
          go_wp2_with fail
        all_goals
          obtain ⟨W, n', mo', cnt', S', Had', mc', hp', rfl, g1, g2, g3⟩ := NP.out
          obtain ⟨D, rfl⟩ : ∃ D : Nat, n' = next + D := ⟨(n' - next).toNat, by omega⟩
          have hd : D ≤ 64 := by omega
          have HP' := Lib.hid hp'
          have G3' := Lib.hid g3
          have nx' := hp'.nx
          have n1' := hp'.n1
          have m1' := hp'.m1
          have c1' := hp'.c1
          clear NP hp' g3 g1 g2
          go_loopg [6] D (fun gj k wr => ∃ j : Nat, j + gj = D ∧ k = .int .i64 (next + (j : Int)) ∧ wr = W)
          case atStart => exact ⟨0, by omega, by go_num, rfl⟩
          case round =>
            obtain ⟨j, hj, rfl, rfl⟩ := hrel
            have hlk := had_look HP'.out.map (next + (j : Int)) (by omega) (by omega)
            by_cases hjd : j < D
            · rw [G3'.out _ (by omega) (by omega)] at hlk
              go_wp2_with fail
              go_roundg (gk - 1)
              case measure => omega
              case rel => exact ⟨j + 1, by omega, by go_num, rfl⟩
            · obtain rfl : j = D := by omega
              rw [nx'] at hlk
              go_wp2_with fail
              clear hlk hjd hj nx' G3'
              generalize next + (j : Int) = nn at *
              have J0 := Lib.hid (Ints.nil (Kept.refl (fun _ => False) wr))
              obtain ⟨W3, hW3⟩ : ∃ W3, W3 = wr := ⟨_, rfl⟩
              rw [← hW3] at HP' J0
              go_loopg [11, 12] 64 (fun gj v k wx => ∃ j : Nat, j + gj = 64 ∧ k = .int .i64 (nn + (j : Int)) ∧ Ints W3 wx v (aheadJ nn Had' j))
              case atStart => exact ⟨0, by omega, by go_num, by rw [← hW3]; exact J0.out⟩
              case round =>
                obtain ⟨q, hqq, rfl, hI⟩ := hrel
                have n0' := HP'.out.win.2.1
                have hlk := had_look ((HP'.out.keep hI.2.1).map) (nn + (q : Int)) (by omega) (by omega)
                by_cases hq64 : q < 64
                · cases hh : Had' (nn + (q : Int)) with
                  | false =>
                    rw [hh] at hlk
                    have e0 : aheadJ nn Had' (q + 1) = aheadJ nn Had' q := by rw [aheadJ_succ, hh]; simp
                    rw [← e0] at hI
                    have HI := Lib.hid hI
                    clear hI e0
                    go_wp2_with fail
                    go_roundg (63 - q)
                    case measure => omega
                    case rel => exact ⟨q + 1, by omega, by go_num, HI.out⟩
                  | true =>
                    rw [hh] at hlk
                    have NX := Lib.hid (show aheadJ nn Had' (q + 1) = aheadJ nn Had' q ++ [nn + (q : Int)] by rw [aheadJ_succ, hh]; rfl)
                    have hlen := aheadJ_length nn Had' q
                    generalize aheadJ nn Had' q = L at *
                    obtain ⟨aov, cav, rfl, _⟩ := (Rd.of_sl hI.1).shape
                    have APP := Lib.hid (fun (W w5 : World) (g off cap : Nat) (hk : Kept (fun _ => False) wr W) h1 h2 h3 => (hI.kept hk).push (g := g) (off := off) (cap := cap) (x := nn + (q : Int)) (w2 := w5) h1 h2 h3)
                    have hone : ∀ u ∈ [Value.int .i64 (nn + (q : Int))], u.oneCell' = true := by simp [Value.oneCell']
                    have b1 : L.length + 1 ≤ maxLen := by unfold maxLen; omega
                    have b2 : (L.length + 1) * 8 ≤ 140737488355328 := by omega
                    have HSL := Lib.hid (hI.1.kept ((Kept.refl (fun _ => False) wr).alloc (.cells #[.int .i64 (nn + (q : Int))] 3)) (fun _ _ h => h))
                    clear hI
                    go_wp2_with (at_builtin; refine wpList_append_sl _ rfl (.tmp 97) (.tmp 99) 22 rfl 3 i0 _ 1 8 Try.underlying22 hi0 hz0 hz1 hz2 rfl (by decide) _ L.length (L.map (Value.int .i64)) rfl HSL.out ⟨wr.heap.size, 0, none⟩ 1 1 [.int .i64 (nn + (q : Int))] rfl rfl (cells_new _ _ _ _) hone (by omega) b1 b2 ?_; intro g4 off4 cap4 w5 h1 h2 h3; have FIN := Lib.hid (APP.out _ w5 g4 off4 cap4 ((Kept.refl (fun _ => False) wr).alloc _) h1 h2 h3); clear h1 h2 h3)
                    go_roundg (63 - q)
                    case measure => omega
                    case rel => exact ⟨q + 1, by omega, by go_num, by rw [NX.out]; exact FIN.out⟩
                · obtain rfl : q = 64 := by omega
                  have hA : aheadL nn S' = aheadJ nn Had' 64 := HP'.out.ahead
                  have hlen := aheadJ_length nn Had' 64
                  have HPW := Lib.hid (HP'.out.keep hI.2.1)
                  have HI := Lib.hid hI
                  have AH := Lib.hid (ahead_st b nn mo' cnt' S' _ HPW.out.win (by omega))
                  rw [hA] at AH
                  clear hA
                  generalize aheadJ nn Had' 64 = L at *
                  obtain ⟨aov, cav, rfl, _⟩ := (Rd.of_sl hI.1).shape
                  clear hI hlk
                  go_wp2_with fail
                  refine AH.out.mono ?_
                  rintro e w7 ⟨u, rfl, hu⟩
                  have HU := Lib.hid hu
                  have HP7 := Lib.hid (HPW.out.keep hu.2.1)
                  have hnF : ∀ k, u.ownBlock = some k → ¬ F k := fun k hk e => by
                    have := HPW.out.tri.lt k (.inr (.inr e))
                    have := hu.2.2 k hk
                    omega
                  have HNF := Lib.hid hnF
                  obtain ⟨aou, cau, rfl, _⟩ := (Rd.of_sl hu.1).shape
                  have KEEP := Lib.hid (HP7.out.book.keepInts _ L hu.1 hnF (by have := HQ.out; omega) (by omega))
                  clear hu hnF AH
                  go_wp2_with fail
                  refine KEEP.out.mono ?_
                  rintro e w8 ⟨rfl, F', hbk, hkF, hF'⟩
                  have HP8 := Lib.hid (HPW.out.one HU.out.2.1 HU.out.2.2 hbk hkF hF')
                  have RU := (Rd.of_sl HU.out.1).kept hkF HNF.out
                  have RV := ((Rd.of_sl HI.out.1).kept HU.out.2.1 (fun _ _ h => h)).kept hkF (fun k hk e => by
                    have := HI.out.2.2 k hk
                    have := HP'.out.tri.lt k (.inr (.inr e))
                    omega)
                  have SAME := Lib.hid (sameInts_true _ _ L w8 RU RV (by omega))
                  have HM2 := Lib.hid (HP8.out.may ask)
                  have hlk := fun z => had_look ((HP8.out.keep ((Kept.refl (fun _ => False) w8).drewN z)).map) ask ha0 ha1
                  have NEXT := Lib.hid (next_st b nn mo' cnt' S' w8 HP8.out.win)
                  have MAY := Lib.hid (fun z => may_st b nn mo' cnt' S' ask _ ((HP8.out.keep ((Kept.refl (fun _ => False) w8).drewN z)).win) ha0 ha1)
                  clear hbk hkF hF' RU RV KEEP
                  rcases (show (nn ≤ ask ∧ ask < nn + 64 ∧ Had' ask = true ∧ mayB nn S' ask = false) ∨ (nn ≤ ask ∧ ask < nn + 64 ∧ Had' ask = false ∧ mayB nn S' ask = true) ∨ (nn ≤ ask ∧ ¬ ask < nn + 64 ∧ mayB nn S' ask = false) ∨ (¬ nn ≤ ask ∧ mayB nn S' ask = false) from by
                    rw [HM2.out]
                    by_cases a1 : nn ≤ ask
                    · by_cases a2 : ask < nn + 64
                      · cases a3 : Had' ask <;> simp [a1, a2]
                      · simp [a1, a2]
                    · simp [a1]) with ⟨a1, a2, a3, hme⟩ | ⟨a1, a2, a3, hme⟩ | ⟨a1, a2, hme⟩ | ⟨a1, hme⟩
                  all_goals
                    try rw [a3] at hlk
                    rw [hme] at MAY
                    clear hme
                    go_wp2_with (first
                      | (go_at_call 13; refine NEXT.out.mono ?_; rintro e w9 ⟨rfl, rfl⟩)
                      | (go_at_call 14; refine SAME.out.mono ?_; rintro e w9 ⟨rfl, z, rfl⟩; have hlk := hlk z)
                      | (go_at_call 10; refine (MAY.out z).mono ?_; rintro e w9 ⟨rfl, rfl⟩))
                    go_roundg (N - i - 1)
                    case measure => omega
                    case rel => exact ⟨i + 1, by omega, by go_num, nn, mo', cnt', S', Had', mc', F', Ls ++ [L], rfl, HP8.out.keep ((Kept.refl (fun _ => False) w8).drewN z), by rw [List.length_append]; have := HQ.out; simp; omega⟩
    · have HP := Lib.hid hp
      have HQ := Lib.hid hq
      clear hp hq
      go_wp2_with (first
        | (go_at_call 10; refine (may_nil _ _).mono ?_; rintro e w4 ⟨rfl, rfl⟩)
        | (go_at_call 9; refine (take_nil _ _).mono ?_; rintro e w5 ⟨rfl, rfl⟩)
        | (go_at_call 13; refine (next_nil _).mono ?_; rintro e w6 ⟨rfl, rfl⟩)
        | (go_at_call 11; refine (ahead_nil _).mono ?_; rintro e w7 ⟨rfl, rfl⟩)
        | (go_at_call 15; refine (HP.out.book.apart (by have := HQ.out; omega)).mono ?_; rintro e w8 ⟨rfl, hk8⟩; have HK8 := Lib.hid hk8; clear hk8))
      go_ret
      exact ⟨rfl, HP.out.tri.kept.trans HK8.out (fun k hk hF => by have := HP.out.tri.new k (.inr (.inr hF)); omega)⟩
end Go.Proofs.Ytkcidcfjoaokoaa
