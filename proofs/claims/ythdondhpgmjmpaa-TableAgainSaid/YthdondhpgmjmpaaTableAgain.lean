/-
  The law TableAgain.
-/
import Derived.Test.YthdondhpgmjmpaaTabAlive
import Derived.Test.YthdondhpgmjmpaaTabI
namespace Go.Proofs.Ythdondhpgmjmpaa
open Go.RowKit
set_option maxRecDepth 100000

theorem hasB_put (L : List It) (x : It) : hasB (putL L x) x.key = true := by
  unfold putL
  split
  · rename_i h
    rw [hasB_mem] at h ⊢
    rw [repL_keys]
    exact h
  · rw [hasB_mem]
    simp [keys]
theorem hasB_del (L : List It) (k : ByteArray) : hasB (delL L k) k = false := by
  cases h : hasB (delL L k) k with
  | false => rfl
  | true =>
    obtain ⟨x, hx, hk⟩ := List.mem_map.1 (hasB_mem.1 h)
    have := (List.mem_filter.1 hx).2
    simp at this
    exact absurd hk this
theorem look_put {L : List It} (hn : (keys L).Nodup) (x : It) : look (putL L x) x.key = some x := by
  rw [look_mem (putL_nodup x hn)]
  refine ⟨?_, rfl⟩
  unfold putL
  split
  · rename_i h
    obtain ⟨y, hy, hk⟩ := List.mem_map.1 (hasB_mem.1 h)
    exact List.mem_map.2 ⟨y, hy, by rw [if_pos hk]⟩
  · simp
theorem del_put_length {L : List It} (x : It) : (delL (putL L x) x.key).length ≤ L.length := by
  unfold putL
  split
  · have h1 := List.length_filter_le (fun y : It => decide (y.key ≠ x.key)) (repL L x)
    rw [repL_length] at h1
    exact h1
  · unfold delL
    rw [List.filter_append]
    simp
    exact List.length_filter_le _ _
theorem OwnT.nodup {w0 w : World} {b seed S : Nat} {L : List It} (h : OwnT w0 w b seed S L) : (keys L).Nodup := by
  obtain ⟨_, O, h2, _⟩ := h
  exact h2.1.nodup

/-- A table of at most n items, few slots. -/
def OwnN (w0 w : World) (b s n : Nat) (L : List It) : Prop := ∃ S, S ≤ 256 ∧ L.length ≤ n ∧ OwnT w0 w b s S L
theorem OwnN.kept {w0 w w' : World} {b s n : Nat} {L : List It} (h : OwnN w0 w b s n L) (hk : Kept (fun _ => False) w w') : OwnN w0 w' b s n L := by
  obtain ⟨S, h1, h2, h3⟩ := h
  exact ⟨S, h1, h2, h3.kept hk⟩
theorem growS_le {S m : Nat} (hS : S ≤ 256) (hm : m ≤ 128) : growS S m ≤ 256 := by
  unfold growS
  split <;> omega
theorem ownN_put {w0 w : World} {b s n : Nat} {L : List It} (x : It) {m : Nat} {r : Bool} (h : OwnN w0 w b s n L) (hm : (putL L x).length ≤ m) (hm1 : m ≤ 128) (hx : x.key.size ≤ 1000000) (hr : (!hasB L x.key) = r) :
    Calls Try.prog 11 #[.pointer (some ⟨b, 0, none⟩), .agg #[.string x.key, .string x.val, .int .i64 x.ver, .int .i64 x.til]] w fun e w' => e = .returned (.bool r) ∧ OwnN w0 w' b s m (putL L x) := by
  obtain ⟨S, h1, h2, h3⟩ := h
  refine (own_put x h3 (by omega) (by omega) hr rfl rfl).mono ?_
  rintro e w' ⟨rfl, h4⟩
  exact ⟨rfl, _, growS_le h1 (by omega), hm, h4⟩
theorem ownN_del {w0 w : World} {b s n : Nat} {L : List It} (k : ByteArray) {m : Nat} {r : Bool} (h : OwnN w0 w b s n L) (hm : (delL L k).length ≤ m) (hx : k.size ≤ 1000000) (hr : hasB L k = r) :
    Calls Try.prog 14 #[.pointer (some ⟨b, 0, none⟩), .string k] w fun e w' => e = .returned (.bool r) ∧ OwnN w0 w' b s m (delL L k) := by
  obtain ⟨S, h1, h2, h3⟩ := h
  refine (own_del k h3 (by omega) (by omega) hr rfl).mono ?_
  rintro e w' ⟨rfl, h4⟩
  exact ⟨rfl, S, h1, hm, h4⟩
theorem ownN_get {w0 w : World} {b s n : Nat} {L : List It} (k : ByteArray) {r : Value} (h : OwnN w0 w b s n L) (hx : k.size ≤ 1000000) (hr : gotV (look L k) = r) :
    Calls Try.prog 15 #[.pointer (some ⟨b, 0, none⟩), .string k] w fun e w' => e = .returned r ∧ OwnN w0 w' b s n L := by
  obtain ⟨S, h1, h2, h3⟩ := h
  refine (own_get k h3 (by omega) (by omega) hr).mono ?_
  rintro e w' ⟨rfl, h4⟩
  exact ⟨rfl, S, h1, h2, h4⟩
theorem ownN_keys {w0 w : World} {b s n : Nat} {L : List It} (h : OwnN w0 w b s n L) : Calls Try.prog 17 #[.pointer (some ⟨b, 0, none⟩)] w (KeysSaid w L) := by
  obtain ⟨S, h1, h2, h3⟩ := h
  exact own_keys h3 (by omega)
theorem ownN_len {w0 w : World} {b s n : Nat} {L : List It} (h : OwnN w0 w b s n L) : Calls Try.prog 13 #[.pointer (some ⟨b, 0, none⟩)] w fun e w' => e = .returned (.int .i64 (L.length : Nat)) ∧ w = w' := by
  obtain ⟨S, h1, h2, h3⟩ := h
  exact own_len h3
theorem ownN_new {w0 w : World} (seed : Nat) (hs : seed < 4294967296) (hk : Kept (fun _ => False) w0 w) :
    Calls Try.prog 9 #[.int .u32 (seed : Int)] w fun e w' => ∃ b, e = .returned (.pointer (some ⟨b, 0, none⟩)) ∧ OwnN w0 w' b seed 0 [] := by
  refine (own_new seed hs hk).mono ?_
  rintro e w' ⟨b, rfl, h⟩
  exact ⟨b, rfl, 8, by omega, by simp, h⟩

theorem rd_str {w : World} {l : List ByteArray} {ao : Option Addr} {m c : Nat} (h : Rd w 1 l.length (.slice ao m c) (l.map Value.string)) (i : Nat) (hi : i < l.length) : ∃ g off, ao = some ⟨g, off, none⟩ ∧ w.cell? ⟨g, off + i, none⟩ = some (.string l[i]) := by
  obtain ⟨_, _, hc⟩ := h.at
  exact hc i _ (by simp [hi])

/-- What one round does to the table, in four steps. -/
structure Again (w0 : World) (b s i : Nat) (L : List It) (k : ByteArray) : Prop where
  put : ∀ w, OwnN w0 w b s i L → Calls Try.prog 11 #[.pointer (some ⟨b, 0, none⟩), .agg #[.string k, .string ⟨#[]⟩, .int .i64 (i : Int), .int .i64 0]] w fun e w' => (∃ r, e = .returned (.bool r)) ∧ OwnN w0 w' b s (i + 1) (putL L ⟨k, ⟨#[]⟩, i, 0⟩)
  del : ∀ w, OwnN w0 w b s (i + 1) (putL L ⟨k, ⟨#[]⟩, i, 0⟩) → Calls Try.prog 14 #[.pointer (some ⟨b, 0, none⟩), .string k] w fun e w' => e = .returned (.bool true) ∧ OwnN w0 w' b s i (delL (putL L ⟨k, ⟨#[]⟩, i, 0⟩) k)
  del2 : ∀ w, OwnN w0 w b s i (delL (putL L ⟨k, ⟨#[]⟩, i, 0⟩) k) → Calls Try.prog 14 #[.pointer (some ⟨b, 0, none⟩), .string k] w fun e w' => e = .returned (.bool false) ∧ OwnN w0 w' b s i (delL (putL L ⟨k, ⟨#[]⟩, i, 0⟩) k)
  get : ∀ w, OwnN w0 w b s i (delL (putL L ⟨k, ⟨#[]⟩, i, 0⟩) k) → Calls Try.prog 15 #[.pointer (some ⟨b, 0, none⟩), .string k] w fun e w' => e = .returned (.tuple #[.agg #[.string ⟨#[]⟩, .string ⟨#[]⟩, .int .i64 0, .int .i64 0], .bool false]) ∧ OwnN w0 w' b s i (delL (putL L ⟨k, ⟨#[]⟩, i, 0⟩) k)
  put2 : ∀ w, OwnN w0 w b s i (delL (putL L ⟨k, ⟨#[]⟩, i, 0⟩) k) → Calls Try.prog 11 #[.pointer (some ⟨b, 0, none⟩), .agg #[.string k, .string ⟨#[]⟩, .int .i64 (-(i : Int)), .int .i64 0]] w fun e w' => e = .returned (.bool true) ∧ OwnN w0 w' b s (i + 1) (putL (delL (putL L ⟨k, ⟨#[]⟩, i, 0⟩) k) ⟨k, ⟨#[]⟩, -(i : Int), 0⟩)
  get2 : ∀ w, OwnN w0 w b s (i + 1) (putL (delL (putL L ⟨k, ⟨#[]⟩, i, 0⟩) k) ⟨k, ⟨#[]⟩, -(i : Int), 0⟩) → Calls Try.prog 15 #[.pointer (some ⟨b, 0, none⟩), .string k] w fun e w' => e = .returned (.tuple #[.agg #[.string k, .string ⟨#[]⟩, .int .i64 (-(i : Int)), .int .i64 0], .bool true]) ∧ OwnN w0 w' b s (i + 1) (putL (delL (putL L ⟨k, ⟨#[]⟩, i, 0⟩) k) ⟨k, ⟨#[]⟩, -(i : Int), 0⟩)
theorem again_mk {w0 w : World} {b s i : Nat} {L : List It} (k : ByteArray) (h : OwnN w0 w b s i L) (hi : i < 100) (hk : k.size ≤ 60) : Again w0 b s i L k := by
  have hL : L.length ≤ i := by
    obtain ⟨S, h1, h2, h3⟩ := h
    exact h2
  have hn : (keys L).Nodup := by
    obtain ⟨S, h1, h2, h3⟩ := h
    exact h3.nodup
  have hd : (delL (putL L ⟨k, ⟨#[]⟩, i, 0⟩) k).length ≤ i := Nat.le_trans (del_put_length (L := L) ⟨k, ⟨#[]⟩, i, 0⟩) hL
  have hn2 : (keys (delL (putL L ⟨k, ⟨#[]⟩, i, 0⟩) k)).Nodup := delL_nodup k (putL_nodup _ hn)
  have hp : (putL L ⟨k, ⟨#[]⟩, i, 0⟩).length ≤ i + 1 := Nat.le_trans (putL_length_le _ _) (by omega)
  have hp2 : (putL (delL (putL L ⟨k, ⟨#[]⟩, i, 0⟩) k) ⟨k, ⟨#[]⟩, -(i : Int), 0⟩).length ≤ i + 1 := Nat.le_trans (putL_length_le _ _) (by omega)
  refine ⟨fun w h => ?_, fun w h => ?_, fun w h => ?_, fun w h => ?_, fun w h => ?_, fun w h => ?_⟩
  · refine (ownN_put ⟨k, ⟨#[]⟩, i, 0⟩ h hp (by omega) (by show k.size ≤ _; omega) rfl).mono ?_
    rintro e w' ⟨rfl, h'⟩
    exact ⟨⟨_, rfl⟩, h'⟩
  · exact ownN_del k h hd (by omega) (hasB_put L ⟨k, ⟨#[]⟩, i, 0⟩)
  · have := ownN_del k h (m := i) (r := false) (by rw [del_absent (hasB_del _ k)]; exact hd) (by omega) (hasB_del _ k)
    rwa [del_absent (hasB_del _ k)] at this
  · exact ownN_get k h (by omega) (by rw [look_none (hasB_del _ k)]; rfl)
  · exact ownN_put ⟨k, ⟨#[]⟩, -(i : Int), 0⟩ h hp2 (by omega) (by show k.size ≤ _; omega) (by show (!hasB _ k) = true; rw [hasB_del]; rfl)
  · exact ownN_get k h (by omega) (by rw [show look (putL (delL (putL L ⟨k, ⟨#[]⟩, i, 0⟩) k) ⟨k, ⟨#[]⟩, -(i : Int), 0⟩) k = _ from look_put hn2 ⟨k, ⟨#[]⟩, -(i : Int), 0⟩]; rfl)

set_option maxHeartbeats 4000000 in
theorem tableAgain_walk (seed : Int) (v : Value) (l : List ByteArray) (w : World) (h0 : 0 ≤ seed) (h1 : seed ≤ 4294967295) (hl : Rd w 1 l.length v (l.map Value.string)) :
    Calls Try.prog 6 #[.int .u32 seed, v] w fun e w' => e = .returned (.bool true) ∧ Kept (fun _ => False) w w' := by
  obtain ⟨s, rfl⟩ : ∃ s : Nat, seed = s := ⟨seed.toNat, by omega⟩
  have hs : s < 4294967296 := by omega
  obtain ⟨ao, cap, rfl, hcap⟩ := hl.shape
  have HL := Lib.hid (fun (wr : World) (hk : Kept (fun _ => False) w wr) i hi => rd_str (hl.kept hk (fun _ _ h => h)) i hi)
  clear hl h0 h1
  obtain ⟨N, hN⟩ : ∃ N, N = l.length := ⟨_, rfl⟩
  rw [← hN] at hcap ⊢
  have HN := Lib.hid hN
  clear hN
  by_cases c1 : (60 : Int) < N
  · go_enter Try.func6, Try.ntmps6
    go_wp2_with fail
    refine (alive_any _).mono ?_
    rintro e w1 ⟨rfl, hk⟩
    go_wp2_with fail
    go_ret
    exact ⟨rfl, hk⟩
  have hN60 : N ≤ 60 := by omega
  clear c1
  go_enter Try.func6, Try.ntmps6
  go_wp2_with fail
  refine (alive_any _).mono ?_
  rintro e w1 ⟨rfl, hk⟩
  go_wp2_with fail
  refine (ownN_new (w0 := w) s hs hk).mono ?_
  rintro e w2 ⟨b, rfl, h0⟩
  have J0 := Lib.hid h0
  clear h0 hk
  go_wp2_with fail
  go_loopg [26] N (fun gk k wr => ∃ i : Nat, i + gk = N ∧ k = .int .i64 (i : Int) ∧ ∃ L, OwnN w wr b s i L)
  case atStart => exact ⟨0, by omega, rfl, _, J0.out⟩
  case round =>
    obtain ⟨i, hi, rfl, L, hT⟩ := hrel
    by_cases hlt : i < N
    · have hkw : Kept (fun _ => False) w wr := by
        obtain ⟨S, _, _, h3⟩ := hT
        exact h3.1
      obtain ⟨g, off, rfl, x0⟩ := HL.out wr hkw i (HN.out ▸ hlt)
      generalize hkey : l[i]'(HN.out ▸ hlt) = key at *
      have HT := Lib.hid hT
      clear hT hkw hkey
      by_cases hsz : (60 : Int) < key.size
      · go_wp2_with fail
        go_ret
        refine ⟨rfl, ?_⟩
        obtain ⟨S, _, _, h3⟩ := HT.out
        exact h3.1
      · have hsz' : key.size ≤ 60 := by omega
        have AG := Lib.hid (again_mk key HT.out (by omega) hsz')
        clear hsz
        go_wp2_with fail
        refine (AG.out.put _ HT.out).mono ?_
        rintro e w3 ⟨⟨r, rfl⟩, h3⟩
        have HT3 := Lib.hid h3
        clear h3
        go_wp2_with fail
        refine (AG.out.del _ HT3.out).mono ?_
        rintro e w4 ⟨rfl, h4⟩
        have HT4 := Lib.hid h4
        clear h4
        go_wp2_with fail
        refine (AG.out.del2 _ HT4.out).mono ?_
        rintro e w5 ⟨rfl, h5⟩
        have HT5 := Lib.hid h5
        clear h5
        go_wp2_with fail
        refine (AG.out.get _ HT5.out).mono ?_
        rintro e w6 ⟨rfl, h6⟩
        have HT6 := Lib.hid (fun o => h6.kept ((Kept.refl _ w6).alloc o))
        clear h6
        go_wp2_with fail
        refine (AG.out.put2 _ (HT6.out _)).mono ?_
        rintro e w7 ⟨rfl, h7⟩
        have HT7 := Lib.hid h7
        clear h7
        go_wp2_with fail
        refine (AG.out.get2 _ HT7.out).mono ?_
        rintro e w8 ⟨rfl, h8⟩
        have HT8 := Lib.hid (fun o => h8.kept ((Kept.refl _ w8).alloc o))
        clear h8
        go_wp2_with fail
        go_roundg (gk - 1)
        case measure => omega
        case rel => exact ⟨i + 1, by omega, by go_num, _, HT8.out _⟩
    · obtain rfl : i = N := by omega
      have HT := Lib.hid hT
      clear hT
      go_wp2_with fail
      refine (ownN_keys HT.out).mono ?_
      rintro e w3 ⟨v3, rfl, hs3⟩
      obtain ⟨ao3, ca3, rfl, hc3⟩ := (Rd.of_sl hs3.1).shape
      have HT3 := Lib.hid (HT.out.kept hs3.2.1)
      have hlen : (sortB (keys L)).length = L.length := by rw [sortB_length]; unfold keys; rw [List.length_map]
      clear hs3
      rw [hlen] at hc3 ⊢
      clear hlen
      go_wp2_with fail
      refine (ownN_len HT3.out).mono ?_
      rintro e w4 ⟨rfl, rfl⟩
      go_wp2_with fail
      go_ret
      refine ⟨rfl, ?_⟩
      obtain ⟨S, _, _, h3⟩ := HT3.out
      exact h3.1
end Go.Proofs.Ythdondhpgmjmpaa
