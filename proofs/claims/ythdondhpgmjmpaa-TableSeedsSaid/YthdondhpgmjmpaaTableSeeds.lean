/-
  The law TableSeeds.
-/
import Derived.Test.YthdondhpgmjmpaaTabAlive
import Derived.Test.YthdondhpgmjmpaaTabI
import Derived.Test.YthdondhpgmjmpaaSameTexts
namespace Go.Proofs.Ythdondhpgmjmpaa
open Go.RowKit
set_option maxRecDepth 100000

/-- Two tables that were made in this call, apart from each other. -/
def Two (w0 w : World) (x sx Sx : Nat) (Lx : List It) (y sy Sy : Nat) (Ly : List It) : Prop :=
  Kept (fun _ => False) w0 w ∧ ∃ Ox Oy, Tb w x Ox sx Sx Lx ∧ Tb w y Oy sy Sy Ly ∧ (∀ k, Ox k → w0.heap.size ≤ k) ∧ (∀ k, Oy k → w0.heap.size ≤ k) ∧ ∀ k, Ox k → ¬ Oy k
section
variable {w0 w w' : World} {x sx Sx : Nat} {Lx : List It} {y sy Sy : Nat} {Ly : List It}
theorem Two.symm (h : Two w0 w x sx Sx Lx y sy Sy Ly) : Two w0 w y sy Sy Ly x sx Sx Lx := by
  obtain ⟨h1, Ox, Oy, h2, h3, h4, h5, h6⟩ := h
  exact ⟨h1, Oy, Ox, h3, h2, h5, h4, fun k hy hx => h6 k hx hy⟩
theorem Two.kept (h : Two w0 w x sx Sx Lx y sy Sy Ly) (hk : Kept (fun _ => False) w w') : Two w0 w' x sx Sx Lx y sy Sy Ly := by
  obtain ⟨h1, Ox, Oy, h2, h3, h4, h5, h6⟩ := h
  exact ⟨h1.trans hk (fun _ _ h => h), Ox, Oy, h2.kept hk (fun _ _ h => h), h3.kept hk (fun _ _ h => h), h4, h5, h6⟩
theorem Two.step {Ox Oy : Nat → Prop} (h1 : Kept (fun _ => False) w0 w) (h3 : Tb w y Oy sy Sy Ly) (h4 : ∀ k, Ox k → w0.heap.size ≤ k) (h5 : ∀ k, Oy k → w0.heap.size ≤ k) (h6 : ∀ k, Ox k → ¬ Oy k)
    {O' : Nat → Prop} {S' : Nat} {L' : List It} (ht : Tb w' x O' sx S' L') (hg : Grew Ox w O' w') : Two w0 w' x sx S' L' y sy Sy Ly := by
  refine ⟨h1.trans hg.1 (fun i hi h => by have := h4 i h; omega), O', Oy, ht, h3.kept hg.1 (fun k hy hx => h6 k hx hy), fun k hk => (hg.2 k hk).elim (h4 k) (fun e => by have := h1.size; omega), h5, fun k hk hy => ?_⟩
  rcases hg.2 k hk with h | h
  · exact h6 k h hy
  · have := h3.lt k hy
    omega
theorem two_put (it : It) {r : Bool} {S' : Nat} {L' : List It} (h : Two w0 w x sx Sx Lx y sy Sy Ly) (hS : Sx ≤ 300000) (hx : it.key.size ≤ 1000000000) (hr : (!hasB Lx it.key) = r) (hL : putL Lx it = L') (hS' : growS Sx L'.length = S') :
    Calls Try.prog 11 #[.pointer (some ⟨x, 0, none⟩), .agg #[.string it.key, .string it.val, .int .i64 it.ver, .int .i64 it.til]] w fun e w' => e = .returned (.bool r) ∧ Two w0 w' x sx S' L' y sy Sy Ly := by
  obtain ⟨h1, Ox, Oy, h2, h3, h4, h5, h6⟩ := h
  subst hr hL hS'
  refine (tb_put it h2 hS hx).mono ?_
  rintro e w' ⟨rfl, O', ht, hg⟩
  exact ⟨rfl, .step h1 h3 h4 h5 h6 ht hg⟩
theorem two_get (key : ByteArray) {r : Value} (h : Two w0 w x sx Sx Lx y sy Sy Ly) (hS : Sx ≤ 1000000) (hx : key.size ≤ 1000000000) (hr : gotV (look Lx key) = r) :
    Calls Try.prog 15 #[.pointer (some ⟨x, 0, none⟩), .string key] w fun e w' => e = .returned r ∧ Two w0 w' x sx Sx Lx y sy Sy Ly := by
  obtain ⟨h1, Ox, Oy, h2, h3, h4, h5, h6⟩ := h
  subst hr
  refine (tb_get key h2 hS hx).mono ?_
  rintro e w' ⟨rfl, O', ht, hg⟩
  exact ⟨rfl, .step h1 h3 h4 h5 h6 ht hg⟩
/-- Get of the second table, behind a block that was just laid: that block stays as it is. -/
theorem two_get_box (key : ByteArray) {r : Value} (o : Obj) (h : Two w0 w x sx Sx Lx y sy Sy Ly) (hS : Sy ≤ 1000000) (hx : key.size ≤ 1000000000) (hr : gotV (look Ly key) = r) :
    Calls Try.prog 15 #[.pointer (some ⟨y, 0, none⟩), .string key] (w.alloc o) fun e w' => e = .returned r ∧ Two w0 w' x sx Sx Lx y sy Sy Ly ∧ w'.heap[w.heap.size]? = some o := by
  have hp : ∀ Oy, Tb w y Oy sy Sy Ly → ¬ Oy w.heap.size := fun Oy h3 hh => by have := h3.lt _ hh; omega
  have hk : Kept (fun _ => False) w (w.alloc o) := (Kept.refl _ w).alloc o
  obtain ⟨h1, Ox, Oy, h2, h3, h4, h5, h6⟩ := h
  subst hr
  refine (tb_get key (h3.kept hk (fun _ _ h => h)) hS hx).mono ?_
  rintro e w' ⟨rfl, O', ht, hg⟩
  refine ⟨rfl, (Two.step (h1.trans hk (fun _ _ h => h)) (h2.kept hk (fun _ _ h => h)) h5 h4 (fun k hy hx => h6 k hx hy) ht hg).symm, ?_⟩
  exact (hg.1.block w.heap.size (by simp) (hp Oy h3)).trans (heap_alloc_new w o)
theorem two_len (h : Two w0 w x sx Sx Lx y sy Sy Ly) :
    Calls Try.prog 13 #[.pointer (some ⟨x, 0, none⟩)] w fun e w' => e = .returned (.int .i64 (Lx.length : Nat)) ∧ w = w' := by
  obtain ⟨h1, Ox, Oy, h2, h3, h4, h5, h6⟩ := h
  exact tb_len h2
theorem two_slots (h : Two w0 w x sx Sx Lx y sy Sy Ly) :
    Calls Try.prog 12 #[.pointer (some ⟨x, 0, none⟩)] w fun e w' => e = .returned (.int .i64 (Sx : Nat)) ∧ Two w0 w' x sx Sx Lx y sy Sy Ly := by
  obtain ⟨h1, Ox, Oy, h2, h3, h4, h5, h6⟩ := h
  refine (tb_slots h2).mono ?_
  rintro e w' ⟨rfl, O', ht, hg⟩
  exact ⟨rfl, .step h1 h3 h4 h5 h6 ht hg⟩
theorem two_keys (h : Two w0 w x sx Sx Lx y sy Sy Ly) (hS : Sx ≤ 400000) : Calls Try.prog 17 #[.pointer (some ⟨x, 0, none⟩)] w (KeysSaid w Lx) := by
  obtain ⟨h1, Ox, Oy, h2, h3, h4, h5, h6⟩ := h
  exact tb_keys h2 hS
theorem two_new (s : Nat) (hs : s < 4294967296) (h : OwnT w0 w x sx Sx Lx) :
    Calls Try.prog 9 #[.int .u32 (s : Int)] w fun e w' => ∃ y, e = .returned (.pointer (some ⟨y, 0, none⟩)) ∧ Two w0 w' x sx Sx Lx y s 8 [] := by
  obtain ⟨h1, O, h2, h3⟩ := h
  refine (tb_new s w hs).mono ?_
  rintro e w' ⟨rfl, h4, h5⟩
  refine ⟨_, rfl, h1.trans h5 (fun _ _ h => h), O, _, h2.kept h5 (fun _ _ h => h), h4, h3, fun k e => by rw [e]; exact h1.size, fun k hk e => ?_⟩
  have := h2.lt k hk
  omega
end

theorem growS_le {S m : Nat} (hS : S ≤ 256) (hm : m ≤ 128) : growS S m ≤ 256 := by
  unfold growS
  split <;> omega
theorem putL_has {L : List It} {x : It} {k : ByteArray} (h : hasB L k = true ∨ k = x.key) : hasB (putL L x) k = true := by
  unfold putL
  split
  · rename_i hx
    rw [hasB_mem, repL_keys, ← hasB_mem]
    rcases h with h | rfl
    · exact h
    · exact hx
  · rw [hasB_mem]
    rcases h with h | rfl
    · have := hasB_mem.1 h
      simp only [keys, List.map_append, List.mem_append] at this ⊢
      exact .inl this
    · simp [keys]

/-- Both tables hold the same items. -/
def Both (w0 w : World) (x sx y sy n : Nat) (L : List It) (ks : List ByteArray) : Prop := ∃ S, S ≤ 256 ∧ L.length ≤ n ∧ (∀ k ∈ ks, hasB L k = true ∧ k.size ≤ 60) ∧ Two w0 w x sx S L y sy S L

set_option maxHeartbeats 4000000 in
theorem tableSeeds_walk (a b : Int) (v : Value) (l : List ByteArray) (w : World) (h0 : 0 ≤ a) (h1 : a ≤ 4294967295) (h2 : 0 ≤ b) (h3 : b ≤ 4294967295) (hl : Rd w 1 l.length v (l.map Value.string)) :
    Calls Try.prog 5 #[.int .u32 a, .int .u32 b, v] w fun e w' => e = .returned (.bool true) ∧ Kept (fun _ => False) w w' := by
  obtain ⟨s, rfl⟩ : ∃ s : Nat, a = s := ⟨a.toNat, by omega⟩
  obtain ⟨t, rfl⟩ : ∃ t : Nat, b = t := ⟨b.toNat, by omega⟩
  have hs : s < 4294967296 := by omega
  have ht : t < 4294967296 := by omega
  obtain ⟨ao, cap, rfl, hcap⟩ := hl.shape
  have HL := Lib.hid (fun (wr : World) (hk : Kept (fun _ => False) w wr) i hi => rd_str (hl.kept hk (fun _ _ h => h)) i hi)
  clear hl h0 h1 h2 h3
  obtain ⟨N, hN⟩ : ∃ N, N = l.length := ⟨_, rfl⟩
  rw [← hN] at hcap ⊢
  have HN := Lib.hid hN
  clear hN
  by_cases c1 : (100 : Int) < N
  · go_enter Try.func5, Try.ntmps5
    go_wp2_with fail
    refine (alive_any _).mono ?_
    rintro e w1 ⟨rfl, hk⟩
    go_wp2_with fail
    go_ret
    exact ⟨rfl, hk⟩
  have hN100 : N ≤ 100 := by omega
  clear c1
  go_enter Try.func5, Try.ntmps5
  go_wp2_with fail
  refine (alive_any _).mono ?_
  rintro e w1 ⟨rfl, hk⟩
  go_wp2_with fail
  refine (own_new (w0 := w) s hs hk).mono ?_
  rintro e w2 ⟨x, rfl, h0⟩
  go_wp2_with fail
  refine (two_new t ht h0).mono ?_
  rintro e w3 ⟨y, rfl, h1⟩
  have J0 : Hid (Both w w3 x s y t 0 [] (l.take 0)) := Lib.hid ⟨8, by omega, by simp, by simp, h1⟩
  clear h0 h1 hk
  go_wp2_with fail
  go_loopg [9] N (fun gk k wr => ∃ i : Nat, i + gk = N ∧ k = .int .i64 (i : Int) ∧ ∃ L, Both w wr x s y t i L (l.take i))
  case atStart => exact ⟨0, by omega, rfl, _, J0.out⟩
  case round =>
    obtain ⟨i, hi, rfl, L, hT⟩ := hrel
    by_cases hlt : i < N
    · obtain ⟨S, hS, hLi, hks, hTwo⟩ := hT
      obtain ⟨g, off, rfl, x00⟩ := HL.out w (Kept.refl _ _) i (HN.out ▸ hlt)
      have x0 := hTwo.1.cell0 x00
      have htk : l.take (i + 1) = l.take i ++ [l[i]'(HN.out ▸ hlt)] := List.take_succ_eq_append_getElem _
      generalize hkey : l[i]'(HN.out ▸ hlt) = key at *
      have HT := Lib.hid hTwo
      have hp : (putL L ⟨key, ⟨#[]⟩, i, 0⟩).length ≤ i + 1 := Nat.le_trans (putL_length_le _ _) (by omega)
      have hks2 : key.size ≤ 60 → ∀ k ∈ l.take (i + 1), hasB (putL L ⟨key, ⟨#[]⟩, i, 0⟩) k = true ∧ k.size ≤ 60 := by
        intro hs60 k hk
        rw [htk] at hk
        rcases List.mem_append.1 hk with h | h
        · exact ⟨putL_has (.inl (hks k h).1), (hks k h).2⟩
        · have : k = key := by simpa using h
          exact ⟨putL_has (.inr this), by rw [this]; exact hs60⟩
      have hgs : growS S (putL L ⟨key, ⟨#[]⟩, i, 0⟩).length ≤ 256 := growS_le hS (by omega)
      have HKS := Lib.hid hks2
      have HKW := Lib.hid hTwo.1
      clear hTwo hkey htk hks hks2
      by_cases hsz : (60 : Int) < key.size
      · go_wp2_with fail
        go_ret
        exact ⟨rfl, HKW.out⟩
      · have hsz' : key.size ≤ 1000000000 := by omega
        have PUT1 := Lib.hid (fun (W : World) (h : Two w W x s S L y t S L) => two_put ⟨key, ⟨#[]⟩, i, 0⟩ h (by omega) hsz' rfl rfl rfl)
        have PUT2 := Lib.hid (fun (W : World) (S' : Nat) (L' : List It) (h : Two w W x s S' L' y t S L) => two_put ⟨key, ⟨#[]⟩, i, 0⟩ h.symm (by omega) hsz' rfl rfl rfl)
        have REL := Lib.hid (fun (W : World) (h : Two w W y t (growS S (putL L ⟨key, ⟨#[]⟩, i, 0⟩).length) (putL L ⟨key, ⟨#[]⟩, i, 0⟩) x s (growS S (putL L ⟨key, ⟨#[]⟩, i, 0⟩).length) (putL L ⟨key, ⟨#[]⟩, i, 0⟩)) => (⟨_, ⟨_, hgs, hp, HKS.out (by omega), h.symm⟩⟩ : ∃ L, Both w W x s y t (i + 1) L (l.take (i + 1))))
        have X00 := Lib.hid (fun (W : World) (h : Kept (fun _ => False) w W) => h.cell0 x00)
        clear hp hgs x00
        generalize growS S (putL L ⟨key, ⟨#[]⟩, i, 0⟩).length = S2 at *
        generalize putL L ⟨key, ⟨#[]⟩, i, 0⟩ = L2 at *
        generalize (!hasB L key) = r at *
        go_wp2_with fail
        go_cut [61] (fun c wr' => c = .bool false ∧ ∃ L, Both w wr' x s y t (i + 1) L (l.take (i + 1)))
        case first =>
          go_region_with (go_at_call 11; first
            | (refine (PUT2.out _ _ _ HT5.out).mono ?_; rintro e w6 ⟨rfl, h6⟩; have HR := Lib.hid (REL.out _ h6); clear h6)
            | (refine (PUT1.out _ (HT.out.kept ((Kept.refl _ wr).drew))).mono ?_; rintro e w5 ⟨rfl, h5⟩; have q5 := X00.out _ h5.1; have HT5 := Lib.hid h5; clear h5))
          all_goals
            go_wp2_with fail
            go_meet
            case rel => exact ⟨rfl, HR.out⟩
        case rest =>
          obtain ⟨rfl, hB⟩ := hcut
          have HB := Lib.hid hB
          clear hB
          go_wp2_with fail
          go_roundg (gk - 1)
          case measure => omega
          case rel => exact ⟨i + 1, by omega, by go_num, HB.out⟩
    · obtain rfl : i = N := by omega
      obtain ⟨S, hS, hLi, hks, hTwo⟩ := hT
      have J1 := Lib.hid hTwo
      have hks2 : ∀ (j : Nat) (hj : j < l.length), ∃ it, look L l[j] = some it ∧ l[j].size ≤ 60 := by
        intro j hj
        have h1 := hks l[j] (by rw [HN.out, List.take_length]; exact List.getElem_mem hj)
        rw [← look_has, Option.isSome_iff_exists] at h1
        obtain ⟨⟨it, h1⟩, h2⟩ := h1
        exact ⟨it, h1, h2⟩
      have HKS := Lib.hid hks2
      clear hTwo hks hks2
      go_wp2_with fail
      go_loopg [10] i (fun gk k wr => ∃ q : Nat, q + gk = i ∧ k = .int .i64 (q : Int) ∧ Two w wr x s S L y t S L)
      case atStart => exact ⟨0, by omega, rfl, J1.out⟩
      case round =>
        obtain ⟨q, hq, rfl, hT⟩ := hrel
        by_cases hlt : q < i
        · obtain ⟨it, hit, hsz0⟩ := HKS.out q (HN.out ▸ hlt)
          obtain ⟨g, off, rfl, x00⟩ := HL.out w (Kept.refl _ _) q (HN.out ▸ hlt)
          have x0 := hT.1.cell0 x00
          have X00 := Lib.hid (fun (W : World) (h : Kept (fun _ => False) w W) => h.cell0 x00)
          generalize hkey : l[q]'(HN.out ▸ hlt) = key at *
          have hsz : key.size ≤ 1000000000 := by omega
          have G1 := Lib.hid (fun (W : World) (h : Two w W x s S L y t S L) => two_get key (r := .tuple #[.agg #[.string it.key, .string it.val, .int .i64 it.ver, .int .i64 it.til], .bool true]) h (by omega) hsz (by rw [hit]; rfl))
          have G2 := Lib.hid (fun (W : World) (h : Two w W x s S L y t S L) => two_get_box key (r := .tuple #[.agg #[.string it.key, .string it.val, .int .i64 it.ver, .int .i64 it.til], .bool true]) (.cells #[.string it.key, .string it.val, .int .i64 it.ver, .int .i64 it.til] 33) h (by omega) hsz (by rw [hit]; rfl))
          have HT := Lib.hid hT
          clear hT hit hkey x00
          go_wp2_with fail
          refine (G1.out _ HT.out).mono ?_
          rintro e w4 ⟨rfl, h4⟩
          have q4 := fun o => X00.out _ (h4.1.alloc o)
          have HT4 := Lib.hid h4
          clear h4
          go_wp2_with fail
          refine (G2.out _ HT4.out).mono ?_
          rintro e w5 ⟨rfl, h5, hb5⟩
          have c0 := cell_at hb5 0
          have c1 := cell_at hb5 1
          have c2 := cell_at hb5 2
          have c3 := cell_at hb5 3
          simp at c0 c1 c2 c3
          have l5 := lt_of_block hb5
          have HT5 := Lib.hid (fun o => h5.kept ((Kept.refl _ w5).alloc o))
          clear h5 hb5
          go_wp2_with fail
          go_roundg (gk - 1)
          case measure => omega
          case rel => exact ⟨q + 1, by omega, by go_num, HT5.out _⟩
        · have HT := Lib.hid hT
          clear hT
          go_wp2_with fail
          refine (two_keys HT.out (by omega)).mono ?_
          rintro e w4 ⟨v4, rfl, h4⟩
          have HT4 := Lib.hid (HT.out.kept h4.2.1)
          go_wp2_with fail
          refine (two_keys HT4.out.symm (by omega)).mono ?_
          rintro e w5 ⟨v5, rfl, h5⟩
          have HT5 := Lib.hid (HT4.out.kept h5.2.1)
          have h4' := h4.kept h5.2.1
          have HR4 := Lib.hid (Rd.of_sl h4'.1)
          have HR5 := Lib.hid (Rd.of_sl h5.1)
          have hlk : (sortB (keys L)).length ≤ 1000000 := by rw [sortB_length]; unfold keys; rw [List.length_map]; omega
          clear h4 h5 h4'
          go_wp2_with fail
          refine (sameTexts_true v4 v5 (sortB (keys L)) _ HR4.out HR5.out hlk).mono ?_
          rintro e w6 ⟨rfl, q6, rfl⟩
          have HT6 := Lib.hid (HT5.out.kept ((Kept.refl _ w5).drewN q6))
          go_wp2_with fail
          refine (two_len HT6.out).mono ?_
          rintro e w7 ⟨rfl, rfl⟩
          go_wp2_with fail
          refine (two_len HT6.out.symm).mono ?_
          rintro e w7 ⟨rfl, rfl⟩
          go_wp2_with fail
          refine (two_slots HT6.out).mono ?_
          rintro e w8 ⟨rfl, h8⟩
          have HT8 := Lib.hid h8
          clear h8
          go_wp2_with fail
          refine (two_slots HT8.out.symm).mono ?_
          rintro e w9 ⟨rfl, h9⟩
          have HT9 := Lib.hid h9
          clear h9
          go_wp2_with fail
          go_ret
          exact ⟨rfl, HT9.out.1⟩
end Go.Proofs.Ythdondhpgmjmpaa
