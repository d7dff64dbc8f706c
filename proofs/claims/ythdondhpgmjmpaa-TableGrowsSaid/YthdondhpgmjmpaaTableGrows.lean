/-
  The law TableGrows.
-/
import Derived.Test.YthdondhpgmjmpaaTabAlive
import Derived.Test.YthdondhpgmjmpaaTabI
import Derived.Test.YthdondhpgmjmpaaBytes
namespace Go.Proofs.Ythdondhpgmjmpaa
open Go.RowKit
set_option maxRecDepth 100000

def gkey (k : Nat) : ByteArray := ⟨#[UInt8.ofNat k, UInt8.ofNat (k / 256), 107]⟩
def git (k : Nat) : It := ⟨gkey k, ⟨#[]⟩, k, 0⟩
def gM (i n : Nat) : List It := (List.range' i (n - i)).map git
def gS : Nat → Nat
  | 0 => 8
  | k + 1 => growS (gS k) (k + 1)
theorem gS_bounds : ∀ k, 8 ≤ gS k ∧ gS k ≤ 8 + 2 * k
  | 0 => ⟨Nat.le_refl _, Nat.le_refl _⟩
  | k + 1 => by
    have := gS_bounds k
    unfold gS growS
    split <;> omega
theorem gkey_inj {i j : Nat} (hi : i < 256) (hj : j < 256) (h : gkey i = gkey j) : i = j := by
  unfold gkey at h
  injection h with h
  have h1 := congrArg (fun a : Array UInt8 => a[0]?) h
  simp at h1
  have h2 := congrArg UInt8.toNat h1
  simp at h2
  omega
theorem gkey_size (k : Nat) : (gkey k).size = 3 := rfl
theorem gM_keys (i n : Nat) : keys (gM i n) = (List.range' i (n - i)).map gkey := by
  unfold keys gM
  rw [List.map_map]
  rfl
theorem gM_has {i n k : Nat} (hn : n ≤ 256) (hk : k < 256) : hasB (gM i n) (gkey k) = decide (i ≤ k ∧ k < n) := by
  rw [Bool.eq_iff_iff, hasB_mem, gM_keys, decide_eq_true_iff, List.mem_map]
  constructor
  · rintro ⟨j, hj, he⟩
    rw [List.mem_range'_1] at hj
    obtain rfl := gkey_inj (by omega) hk he
    omega
  · rintro ⟨h1, h2⟩
    exact ⟨k, by rw [List.mem_range'_1]; omega, rfl⟩
theorem gM_nodup {i n : Nat} (hn : n ≤ 256) : (keys (gM i n)).Nodup := by
  rw [gM_keys]
  unfold List.Nodup
  rw [List.pairwise_map]
  refine List.Pairwise.imp_of_mem ?_ (List.nodup_range' (s := i) (n := n - i))
  intro a b ha hb hne he
  rw [List.mem_range'_1] at ha hb
  exact hne (gkey_inj (by omega) (by omega) he)
theorem gM_put {n : Nat} (hn : n < 256) : putL (gM 0 n) (git n) = gM 0 (n + 1) := by
  unfold putL
  rw [show (git n).key = gkey n from rfl, gM_has (by omega) (by omega), decide_eq_false (by omega)]
  simp [gM, List.range'_concat]
theorem gM_length (i n : Nat) : (gM i n).length = n - i := by simp [gM]
theorem gM_del {i n : Nat} (hi : i < n) (hn : n ≤ 256) : delL (gM i n) (gkey i) = gM (i + 1) n := by
  have h : gM i n = git i :: gM (i + 1) n := by
    unfold gM
    rw [show n - i = (n - (i + 1)) + 1 by omega, List.range'_succ]
    rfl
  rw [h]
  unfold delL
  rw [List.filter_cons, if_neg (by simp [git]), List.filter_eq_self.2]
  intro a ha
  refine decide_eq_true fun hk => ?_
  unfold gM at ha
  obtain ⟨j, hj, rfl⟩ := List.mem_map.1 ha
  rw [List.mem_range'_1] at hj
  have := gkey_inj (i := j) (j := i) (by omega) (by omega) hk
  omega
theorem gM_look {i n k : Nat} (hn : n ≤ 256) (hk : k < n) : look (gM i n) (gkey k) = if i ≤ k then some (git k) else none := by
  split
  · rw [look_mem (gM_nodup hn)]
    refine ⟨?_, rfl⟩
    unfold gM
    exact List.mem_map.2 ⟨k, by rw [List.mem_range'_1]; omega, rfl⟩
  · exact look_none (by rw [gM_has hn (by omega)]; exact decide_eq_false (by omega))

theorem gkey_nums (k : Nat) : strOfNums [(k : Int), (k : Int) / 256, 107] = gkey k := by
  unfold strOfNums gkey
  simp only [List.map_cons, List.map_nil]
  have e : ((k : Int) / 256).toNat = k / 256 := by omega
  rw [e, Int.toNat_natCast]
  rfl
theorem gkey_any (k : Nat) (w : World) (hk : k ≤ 250) :
    Calls Try.prog 10 #[.int .i64 (k : Int)] w fun e w' => e = .returned (.string (gkey k)) ∧ Kept (fun _ => False) w w' := by
  have h1 : IntKind.u8.wrap (k : Int) = (k : Int) := IntWalk.u8_in _ (by omega)
  have hcv := conv_new w [(k : Int), (k : Int) / 256, 107]
  rw [gkey_nums] at hcv
  simp only [List.length_cons, List.length_nil, List.map_cons, List.map_nil, Nat.zero_add, Nat.reduceAdd] at hcv
  go_enter Try.func10, Try.ntmps10
  go_wp2_with fail
  go_ret
  exact ⟨rfl, (Kept.refl _ w).alloc _⟩

theorem gM_len_any {w0 w : World} {b s S i n : Nat} {r : Int} (h : OwnT w0 w b s S (gM i n)) (hr : ((n - i : Nat) : Int) = r) :
    Calls Try.prog 13 #[.pointer (some ⟨b, 0, none⟩)] w fun e w' => e = .returned (.int .i64 r) ∧ w = w' := by
  subst hr
  refine (own_len h).mono ?_
  rintro e w' ⟨rfl, rfl⟩
  exact ⟨by rw [gM_length], rfl⟩
theorem gM_slots_any {w0 w : World} {b s S : Nat} {L : List It} {r : Int} (h : OwnT w0 w b s S L) (hr : (S : Int) = r) :
    Calls Try.prog 12 #[.pointer (some ⟨b, 0, none⟩)] w fun e w' => e = .returned (.int .i64 r) ∧ OwnT w0 w' b s S L := by
  subst hr
  exact own_slots h
theorem gM_put_any {w0 w : World} {b s i : Nat} (h : OwnT w0 w b s (gS i) (gM 0 i)) (hi : i < 250) :
    Calls Try.prog 11 #[.pointer (some ⟨b, 0, none⟩), .agg #[.string (gkey i), .string ⟨#[]⟩, .int .i64 (i : Int), .int .i64 0]] w fun e w' => e = .returned (.bool true) ∧ OwnT w0 w' b s (gS (i + 1)) (gM 0 (i + 1)) := by
  have hb := gS_bounds i
  exact own_put (git i) h (by omega) (by show (gkey i).size ≤ _; rw [gkey_size]; omega) (by rw [show (git i).key = gkey i from rfl, gM_has (by omega) (by omega), decide_eq_false (by omega)]; rfl) (gM_put (by omega)) (by rw [gM_length]; rfl)
theorem gM_del_any {w0 w : World} {b s S i n : Nat} (h : OwnT w0 w b s S (gM i n)) (hS : S ≤ 1000) (hi : i < n) (hn : n ≤ 250) :
    Calls Try.prog 14 #[.pointer (some ⟨b, 0, none⟩), .string (gkey i)] w fun e w' => e = .returned (.bool true) ∧ OwnT w0 w' b s S (gM (i + 1) n) :=
  own_del (gkey i) h (by omega) (by rw [gkey_size]; omega) (by rw [gM_has (by omega) (by omega)]; exact decide_eq_true ⟨by omega, hi⟩) (gM_del hi (by omega))
theorem gM_get_none {w0 w : World} {b s S i n k : Nat} (h : OwnT w0 w b s S (gM i n)) (hS : S ≤ 1000) (hi : k < i) (hk : k < n) (hn : n ≤ 250) :
    Calls Try.prog 15 #[.pointer (some ⟨b, 0, none⟩), .string (gkey k)] w fun e w' => e = .returned (.tuple #[.agg #[.string ⟨#[]⟩, .string ⟨#[]⟩, .int .i64 0, .int .i64 0], .bool false]) ∧ OwnT w0 w' b s S (gM i n) :=
  own_get (gkey k) h (by omega) (by rw [gkey_size]; omega) (by rw [gM_look (by omega) hk, if_neg (by omega)]; rfl)
theorem gM_get_some {w0 w : World} {b s S i n k : Nat} (h : OwnT w0 w b s S (gM i n)) (hS : S ≤ 1000) (hi : i ≤ k) (hk : k < n) (hn : n ≤ 250) :
    Calls Try.prog 15 #[.pointer (some ⟨b, 0, none⟩), .string (gkey k)] w fun e w' => e = .returned (.tuple #[.agg #[.string (gkey k), .string ⟨#[]⟩, .int .i64 (k : Int), .int .i64 0], .bool true]) ∧ OwnT w0 w' b s S (gM i n) :=
  own_get (gkey k) h (by omega) (by rw [gkey_size]; omega) (by rw [gM_look (by omega) hk, if_pos hi]; rfl)

set_option maxHeartbeats 4000000 in
theorem tableGrows_walk (seed n less : Int) (w : World) (h0 : 0 ≤ seed) (h1 : seed ≤ 4294967295) (hn0 : -9223372036854775808 ≤ n) (hn1 : n ≤ 9223372036854775807) (hl0 : -9223372036854775808 ≤ less) (hl1 : less ≤ 9223372036854775807) :
    Calls Try.prog 4 #[.int .u32 seed, .int .i64 n, .int .i64 less] w fun e w' => e = .returned (.bool true) ∧ Kept (fun _ => False) w w' := by
  obtain ⟨s, rfl⟩ : ∃ s : Nat, seed = s := ⟨seed.toNat, by omega⟩
  have hs : s < 4294967296 := by omega
  by_cases c1 : n < 0
  · go_enter Try.func4, Try.ntmps4
    go_wp2_with fail
    refine (alive_any _).mono ?_
    rintro e w1 ⟨rfl, hk⟩
    go_wp2_with fail
    go_ret
    exact ⟨rfl, hk⟩
  by_cases c2 : 200 < n
  · go_enter Try.func4, Try.ntmps4
    go_wp2_with fail
    refine (alive_any _).mono ?_
    rintro e w1 ⟨rfl, hk⟩
    go_wp2_with fail
    go_ret
    exact ⟨rfl, hk⟩
  by_cases c3 : less < 0
  · go_enter Try.func4, Try.ntmps4
    go_wp2_with fail
    refine (alive_any _).mono ?_
    rintro e w1 ⟨rfl, hk⟩
    go_wp2_with fail
    go_ret
    exact ⟨rfl, hk⟩
  by_cases c4 : n < less
  · go_enter Try.func4, Try.ntmps4
    go_wp2_with fail
    refine (alive_any _).mono ?_
    rintro e w1 ⟨rfl, hk⟩
    go_wp2_with fail
    go_ret
    exact ⟨rfl, hk⟩
  obtain ⟨N, rfl⟩ : ∃ N : Nat, n = N := ⟨n.toNat, by omega⟩
  obtain ⟨M, rfl⟩ : ∃ M : Nat, less = M := ⟨less.toNat, by omega⟩
  have hN : N ≤ 200 := by omega
  have hM : M ≤ N := by omega
  clear c1 c2 c3 c4 hn0 hn1 hl0 hl1 h0 h1
  go_enter Try.func4, Try.ntmps4
  go_wp2_with fail
  refine (alive_any _).mono ?_
  rintro e w1 ⟨rfl, hk⟩
  go_wp2_with fail
  refine (own_new (w0 := w) s hs hk).mono ?_
  rintro e w2 ⟨b, rfl, h0⟩
  have J0 : Hid (OwnT w w2 b s (gS 0) (gM 0 0)) := Lib.hid h0
  clear h0 hk
  go_wp2_with fail
  go_loopg [8, 10] N (fun gk sl k wr => ∃ i : Nat, i + gk = N ∧ k = .int .i64 (i : Int) ∧ sl = .int .i64 (gS i : Nat) ∧ OwnT w wr b s (gS i) (gM 0 i))
  case atStart => exact ⟨0, by omega, rfl, rfl, J0.out⟩
  case round =>
    obtain ⟨i, hi, rfl, rfl, hT⟩ := hrel
    have hb := gS_bounds i
    by_cases hlt : i < N
    · have HT := Lib.hid hT
      clear hT
      go_wp2_with fail
      refine (gkey_any i _ (by omega)).mono ?_
      rintro e w3 ⟨rfl, hk3⟩
      have HT3 := Lib.hid (HT.out.kept hk3)
      clear hk3
      go_wp2_with fail
      refine (gM_put_any HT3.out (by omega)).mono ?_
      rintro e w4 ⟨rfl, h4⟩
      have HT4 := Lib.hid h4
      clear h4
      by_cases hg : gS i < i + 1
      · have hS1 : (gS (i + 1) : Int) = (gS i : Int) * 2 := by rw [gS, growS, if_pos hg]; omega
        have HS1 := Lib.hid hS1
        clear hS1
        have hg' : ((gS i : Nat) : Int) < (i : Int) + 1 := by omega
        clear hg
        go_wp2_with fail
        refine (gM_slots_any HT4.out HS1.out).mono ?_
        rintro e w5 ⟨rfl, h5⟩
        have HT5 := Lib.hid h5
        clear h5
        go_wp2_with fail
        refine (gM_len_any (r := (i : Int) + 1) HT5.out (by omega)).mono ?_
        rintro e w6 ⟨rfl, rfl⟩
        go_wp2_with fail
        go_roundg (gk - 1)
        case measure => omega
        case rel => exact ⟨i + 1, by omega, by go_num, by rw [HS1.out], HT5.out⟩
      · have hS1 : (gS (i + 1) : Int) = (gS i : Int) := by rw [gS, growS, if_neg hg]
        have HS1 := Lib.hid hS1
        clear hS1
        have hg' : ¬ ((gS i : Nat) : Int) < (i : Int) + 1 := by omega
        clear hg
        go_wp2_with fail
        refine (gM_slots_any HT4.out HS1.out).mono ?_
        rintro e w5 ⟨rfl, h5⟩
        have HT5 := Lib.hid h5
        clear h5
        go_wp2_with fail
        refine (gM_len_any (r := (i : Int) + 1) HT5.out (by omega)).mono ?_
        rintro e w6 ⟨rfl, rfl⟩
        go_wp2_with fail
        go_roundg (gk - 1)
        case measure => omega
        case rel => exact ⟨i + 1, by omega, by go_num, by rw [HS1.out], HT5.out⟩
    · obtain rfl : i = N := by omega
      have J1 := Lib.hid hT
      clear hT
      go_wp2_with fail
      go_loopg [11] M (fun gk k wr => ∃ j : Nat, j + gk = M ∧ k = .int .i64 (j : Int) ∧ OwnT w wr b s (gS i) (gM j i))
      case atStart => exact ⟨0, by omega, rfl, J1.out⟩
      case round =>
        obtain ⟨j, hj, rfl, hT⟩ := hrel
        by_cases hlt : j < M
        · have HT := Lib.hid hT
          clear hT
          go_wp2_with fail
          refine (gkey_any j _ (by omega)).mono ?_
          rintro e w3 ⟨rfl, hk3⟩
          have HT3 := Lib.hid (HT.out.kept hk3)
          clear hk3
          go_wp2_with fail
          refine (gM_del_any HT3.out (by omega) (by omega) (by omega)).mono ?_
          rintro e w4 ⟨rfl, h4⟩
          have HT4 := Lib.hid h4
          clear h4
          go_wp2_with fail
          refine (gM_slots_any HT4.out rfl).mono ?_
          rintro e w5 ⟨rfl, h5⟩
          have HT5 := Lib.hid h5
          clear h5
          go_wp2_with fail
          go_roundg (gk - 1)
          case measure => omega
          case rel => exact ⟨j + 1, by omega, by go_num, HT5.out⟩
        · obtain rfl : j = M := by omega
          have J2 := Lib.hid hT
          clear hT
          go_wp2_with fail
          go_loopg [12] i (fun gk k wr => ∃ q : Nat, q + gk = i ∧ k = .int .i64 (q : Int) ∧ OwnT w wr b s (gS i) (gM j i))
          case atStart => exact ⟨0, by omega, rfl, J2.out⟩
          case round =>
            obtain ⟨q, hq, rfl, hT⟩ := hrel
            by_cases hlt : q < i
            · have HT := Lib.hid hT
              clear hT
              go_wp2_with fail
              refine (gkey_any q _ (by omega)).mono ?_
              rintro e w3 ⟨rfl, hk3⟩
              have HT3 := Lib.hid (HT.out.kept hk3)
              clear hk3
              go_wp2_with fail
              by_cases hjq : j ≤ q
              · refine (gM_get_some HT3.out (by omega) hjq hlt (by omega)).mono ?_
                rintro e w4 ⟨rfl, h4⟩
                have HT4 := Lib.hid (fun o => h4.kept ((Kept.refl _ w4).alloc o))
                clear h4
                go_wp2_with fail
                go_roundg (gk - 1)
                case measure => omega
                case rel => exact ⟨q + 1, by omega, by go_num, HT4.out _⟩
              · refine (gM_get_none HT3.out (by omega) (by omega) hlt (by omega)).mono ?_
                rintro e w4 ⟨rfl, h4⟩
                have HT4 := Lib.hid (fun o => h4.kept ((Kept.refl _ w4).alloc o))
                clear h4
                go_wp2_with fail
                go_roundg (gk - 1)
                case measure => omega
                case rel => exact ⟨q + 1, by omega, by go_num, HT4.out _⟩
            · have HT := Lib.hid hT
              clear hT
              go_wp2_with fail
              refine (gM_len_any (r := (i : Int) - j) HT.out (by omega)).mono ?_
              rintro e w6 ⟨rfl, rfl⟩
              go_wp2_with fail
              go_ret
              exact ⟨rfl, HT.out.1⟩
end Go.Proofs.Ythdondhpgmjmpaa
