/-
  A cache of a law's own; the library's variables as the row lists them; alive.
-/
import Derived.Test.YtekcjoogggoijaaGreatDoorCp09
import Derived.Test.YtekcjoogggoijaaGreatDoorCp21
import Derived.Test.YtekcjoogggoijaaGreatDoorRows
import Derived.Stop.LaidErr
import Derived.Lib.LaidTab
import Derived.LaidLaws
set_option linter.unusedVariables false
set_option linter.unusedSimpArgs false
set_option linter.unnecessarySimpa false
namespace Go.Proofs.YtekcjoogggoijaaGreatDoor
open Go.RowKit

/-- A cache between two commands; m: at most so many were written. -/
structure GoodC (s : CSt) (m : Int) : Prop where
  b0 : 0 ≤ s.bud
  b1 : s.bud ≤ 1000000
  nd : (keys s.U).Nodup
  used : usedL s.U ≤ s.bud
  keyl : ∀ x ∈ s.U, x.key.size ≤ 60
  vall : ∀ x ∈ s.U, x.val.size ≤ 500
  til : ∀ x ∈ s.U, 0 ≤ x.til ∧ x.til ≤ 2000000000000
  v0 : 0 ≤ s.ver
  v1 : s.ver ≤ m
  g0 : 0 ≤ s.gone
  gl : s.gone + s.U.length ≤ s.ver
theorem GoodC.le {s : CSt} {m n : Int} (h : GoodC s m) (hm : m ≤ n) : GoodC s n := ⟨h.b0, h.b1, h.nd, h.used, h.keyl, h.vall, h.til, h.v0, Int.le_trans h.v1 hm, h.g0, h.gl⟩
/-- Fewer items, in whatever order. -/
theorem GoodC.sub {s : CSt} {m : Int} (h : GoodC s m) {U : List It} (hm : ∀ x ∈ U, x ∈ s.U) (hn : (keys U).Nodup) (hu : usedL U ≤ usedL s.U) (hl : U.length ≤ s.U.length) : GoodC { s with U := U } m :=
  ⟨h.b0, h.b1, hn, Int.le_trans hu h.used, fun x hx => h.keyl x (hm x hx), fun x hx => h.vall x (hm x hx), fun x hx => h.til x (hm x hx), h.v0, h.v1, h.g0, by have := h.gl; simp only; omega⟩
theorem keys_filter_nodup {U : List It} (h : (keys U).Nodup) (p : It → Bool) : (keys (U.filter p)).Nodup :=
  h.sublist ((List.filter_sublist).map It.key)
theorem GoodC.filter {s : CSt} {m : Int} (h : GoodC s m) (p : It → Bool) : GoodC { s with U := s.U.filter p } m :=
  h.sub (fun x hx => (List.mem_filter.1 hx).1) (keys_filter_nodup h.nd p) (usedL_filter_le p _) (List.length_filter_le p _)
theorem putC_nodup {U : List It} (h : (keys U).Nodup) (x : It) : (keys (putC U x)).Nodup := by
  unfold putC
  have e : keys (delL U x.key ++ [x]) = keys (delL U x.key) ++ [x.key] := by unfold keys; rw [List.map_append]; rfl
  rw [e, List.nodup_append]
  refine ⟨keys_filter_nodup h _, by simp, ?_⟩
  intro a ha b hb
  rw [List.mem_singleton.1 hb]
  rw [keys_del] at ha
  simpa using (List.mem_filter.1 ha).2
theorem putC_mem {U : List It} {x y : It} (h : y ∈ putC U x) : y ∈ U ∨ y = x := by
  unfold putC at h
  rcases List.mem_append.1 h with h | h
  · exact .inl (List.mem_filter.1 h).1
  · exact .inr (List.mem_singleton.1 h)
theorem putC_length (U : List It) (x : It) : (putC U x).length ≤ U.length + 1 := by
  unfold putC
  rw [List.length_append, List.length_singleton]
  have := List.length_filter_le (fun y : It => decide (y.key ≠ x.key)) U
  unfold delL
  omega
theorem delL_length {U : List It} (hn : (keys U).Nodup) {k : ByteArray} {x : It} (h : look U k = some x) : (delL U k).length + 1 = U.length := by
  obtain ⟨hm, hk⟩ := (look_mem hn).1 h
  obtain ⟨i, hi, he⟩ := List.getElem_of_mem hm
  rw [del_erase k U i x hn (by rw [List.getElem?_eq_getElem hi, he]) hk, List.length_eraseIdx_of_lt hi]
  omega

theorem GoodC.write {s : CSt} {m : Int} (h : GoodC s m) (x : It) (hk : x.key.size ≤ 60) (hv : x.val.size ≤ 500) (ht : 0 ≤ x.til ∧ x.til ≤ 2000000000000) : GoodC (writeC s x).2 (m + 1) := by
  unfold writeC
  split
  · exact h.le (by omega)
  · simp only
    have hsuf := evict_suffix s.bud (putC s.U ⟨x.key, x.val, s.ver + 1, x.til⟩)
    have hmem : ∀ y ∈ evict s.bud (putC s.U ⟨x.key, x.val, s.ver + 1, x.til⟩), y ∈ s.U ∨ y = ⟨x.key, x.val, s.ver + 1, x.til⟩ := fun y hy => putC_mem (hsuf.subset hy)
    have hpl := putC_length s.U ⟨x.key, x.val, s.ver + 1, x.til⟩
    have hsl := hsuf.length_le
    have hgl := h.gl
    have hv0 := h.v0
    have hv1 := h.v1
    have hg0 := h.g0
    refine ⟨h.b0, h.b1, (putC_nodup h.nd _).sublist (hsuf.sublist.map It.key), evict_used h.b0 _, ?_, ?_, ?_, by simp only; omega, by simp only; omega, by simp only; omega, by simp only; omega⟩
    · intro y hy
      rcases hmem y hy with h1 | rfl
      · exact h.keyl y h1
      · exact hk
    · intro y hy
      rcases hmem y hy with h1 | rfl
      · exact h.vall y h1
      · exact hv
    · intro y hy
      rcases hmem y hy with h1 | rfl
      · exact h.til y h1
      · exact ht
theorem GoodC.again {s : CSt} {m : Int} (h : GoodC s m) {x y : It} (hl : look s.U y.key = some x) (hk : y.key = x.key) (hv : y.val = x.val) (ht : 0 ≤ y.til ∧ y.til ≤ 2000000000000) : GoodC { s with U := putC s.U y } m := by
  have hx := ((look_mem h.nd).1 hl).1
  have hu : usedL (putC s.U y) = usedL s.U := by
    have h1 := usedL_snoc (delL s.U y.key) y
    have h2 := usedL_del_some h.nd hl
    have h3 : costI y = costI x := by unfold costI; rw [hk, hv]
    unfold putC
    omega
  have hlen : (putC s.U y).length = s.U.length := by
    have := delL_length h.nd hl
    unfold putC
    rw [List.length_append, List.length_singleton]
    omega
  refine ⟨h.b0, h.b1, putC_nodup h.nd _, by simp only; rw [hu]; exact h.used, ?_, ?_, ?_, h.v0, h.v1, h.g0, by simp only; rw [hlen]; exact h.gl⟩
  · intro z hz
    rcases putC_mem hz with h1 | rfl
    · exact h.keyl z h1
    · rw [hk]; exact h.keyl x hx
  · intro z hz
    rcases putC_mem hz with h1 | rfl
    · exact h.vall z h1
    · rw [hv]; exact h.vall x hx
  · intro z hz
    rcases putC_mem hz with h1 | rfl
    · exact h.til z h1
    · exact ht
theorem untilC_range {n now : Int} (hn0 : 0 ≤ n) (hn1 : n ≤ 1000000000000) (h0 : 0 ≤ now) (h1 : now ≤ 1000000000000) : 0 ≤ untilC n now ∧ untilC n now ≤ 2000000000000 := by
  unfold untilC
  split <;> omega
theorem nDigits_few : ∀ (k u : Nat), u < 10 ^ (k + 1) → Lib.nDigits u ≤ k + 1
  | 0, u, h => by rw [Lib.nDigits_small (by simpa using h)]; exact Nat.le_refl _
  | k + 1, u, h => by
    by_cases hu : u < 10
    · rw [Lib.nDigits_small hu]; omega
    · rw [Lib.nDigits_big hu]
      have := nDigits_few k (u / 10) (by rw [Nat.pow_succ] at h; omega)
      omega
theorem itoaB_few {n : Int} (h0 : -1000000000000 ≤ n) (h1 : n ≤ 1000000000000) : (itoaB n).size ≤ 500 := by
  show (Lib.itoa n).length ≤ 500
  unfold Lib.itoa
  split
  · rw [List.length_cons, Lib.decDigits_length]
    have := nDigits_few 13 n.natAbs (by omega)
    omega
  · rw [Lib.decDigits_length]
    have := nDigits_few 13 n.toNat (by omega)
    omega

theorem GoodC.does {s : CSt} {m : Int} (h : GoodC s m) (x : Cm) (now : Int) : GoodC (doC s x now).2 (m + 1) := by
  unfold doC
  split
  · exact h.le (by omega)
  · rename_i hc
    have hr : rightC x := Classical.byContradiction fun hn => hc (.inl hn)
    have h0 : 0 ≤ now := by have : ¬ now < 0 := fun hn => hc (.inr (.inl hn)); omega
    have h1 : now ≤ 1000000000000 := by have : ¬ 1000000000000 < now := fun hn => hc (.inr (.inr hn)); omega
    obtain ⟨_, _, hky, hvl, hn0, hn1, _, _⟩ := hr
    have hS := h.filter (fun x => !overB now x)
    have hS' : GoodC { s with U := sweepC now s.U } m := hS
    clear hS hc
    generalize ({ s with U := sweepC now s.U } : CSt) = t at hS'
    have hle := hS'.le (show m ≤ m + 1 by omega)
    unfold didC
    split
    · rename_i hop
      have hk : x.key.size ≤ 60 := by
        unfold keyOk at hky
        rw [if_neg (by omega), if_neg (by omega)] at hky
        exact hky.2
      unfold setC
      split
      · exact hle
      · split
        · exact hle
        · split
          · exact hle
          · split
            · exact hle
            · exact hS'.write _ hk hvl (untilC_range (by omega) hn1 h0 h1)
    · split
      · unfold scanC
        split <;> exact hle
      · split
        · exact (hS'.sub (U := []) (fun x hx => by cases hx) (by simp [keys]) (by rw [usedL_nil]; have := usedL_ge t.U; omega) (Nat.zero_le _)).le (by omega)
        · split
          · exact hle
          · unfold itemC
            split
            · exact hle
            · rename_i hneg
              split
              · exact hle
              · rename_i was hl
                have hwas := (look_mem hS'.nd).1 hl
                split
                · exact (hS'.again (y := was) (by rw [hwas.2]; exact hl) rfl rfl (hS'.til was hwas.1)).le (by omega)
                · split
                  · exact hle
                  · split
                    · exact (hS'.filter _).le (by omega)
                    · split
                      · rename_i h9
                        exact (hS'.again (x := was) (y := ⟨was.key, was.val, was.ver, untilC x.num now⟩) (by simp only; rw [hwas.2]; exact hl) rfl rfl (untilC_range (by omega) hn1 h0 h1)).le (by omega)
                      · split
                        · unfold incrC
                          split
                          · split
                            · exact hle
                            · rename_i hsum
                              exact hS'.write _ (hS'.keyl was hwas.1) (itoaB_few (by omega) (by omega)) (hS'.til was hwas.1)
                          · exact hle
                        · unfold behindC
                          split
                          · exact hle
                          · rename_i hsz
                            exact hS'.write _ (hS'.keyl was hwas.1) (by simp only; rw [ByteArray.size_append]; omega) (hS'.til was hwas.1)
end Go.Proofs.YtekcjoogggoijaaGreatDoor
namespace Go.Proofs.YtekcjoogggoijaaGreatDoor
open Go.RowKit Go.ChangeShapes
set_option maxRecDepth 100000

theorem estar : "*" ++ "errors.errorString" = "*errors.errorString" := by decide
theorem erow (u : TypeId) (h : Tryz.prog.typeName? 3 u = some "*errors.errorString") : u = 216 :=
  typeName_ptr_named (nm := "errors.errorString") (by rw [estar]; kernel_rfl) (by kernel_rfl) (by decide) u (by rw [estar]; exact h)
theorem gsynT : (Tryz.prog.globals[0]?).map (·.type) = some 165 := by kernel_rfl
theorem grngT : (Tryz.prog.globals[1]?).map (·.type) = some 165 := by kernel_rfl
theorem gtabT : (Tryz.prog.globals[2]?).map (·.type) = some 210 := by kernel_rfl
theorem ecells : Tryz.prog.cellsOf 218 = 1 := by kernel_rfl
theorem scells : Tryz.prog.cellsOf 9 = 1 := by kernel_rfl
theorem tcells : Tryz.prog.cellsOf 210 = 20 := by kernel_rfl
theorem ucells : Tryz.prog.cellsOf 122 = 1 := by kernel_rfl
/-- What each row's list gives. -/
theorem laid_of {W : World} (h : laidMetH Tryz.prog Rows.cachePlaysRow.laid W) : Laid W := by
  have h0 : laidMet Tryz.prog (("math/bits.deBruijn32tab", Rows.laid_math_bits_deBruijn32tab) :: ("math/bits.deBruijn64tab", Rows.laid_math_bits_deBruijn64tab) :: ("internal/strconv.uint64pow10", Lib.tabData .u64 Lib.pow10Tab) ::
    ("strconv.ErrRange", .iface "*errors.errorString" (.ptr (.agg [.lit (.string [118, 97, 108, 117, 101, 32, 111, 117, 116, 32, 111, 102, 32, 114, 97, 110, 103, 101])]))) :: ("strconv.ErrSyntax", .iface "*errors.errorString" (.ptr (.agg [.lit (.string [105, 110, 118, 97, 108, 105, 100, 32, 115, 121, 110, 116, 97, 120])]))) :: []) W := h
  have h2 := h0.tail.tail
  have h3 := h2.tail
  have h4 := h3.tail
  refine ⟨?_, ?_, ?_⟩
  · obtain ⟨a, s, hv, -, -, -⟩ := laid_sentinel h4 gsyn gsynT Tryz.underlying165 erow Tryz.underlying216 Tryz.underlying218 rfl rfl Tryz.underlying9 ecells scells
    exact ⟨_, _, hv⟩
  · obtain ⟨a, s, hv, -, -, -⟩ := laid_sentinel h3 grng grngT Tryz.underlying165 erow Tryz.underlying216 Tryz.underlying218 rfl rfl Tryz.underlying9 ecells scells
    exact ⟨_, _, hv⟩
  · exact Lib.tabIs_of_head gtab gtabT Tryz.underlying210 Tryz.underlying122 ucells tcells h2

theorem GoodC.fit {s : CSt} {m : Int} (h : GoodC s m) (hm : m ≤ 1000000000) : FitC s :=
  ⟨h.b0, h.b1, Int.le_trans h.used h.b1, h.v0, Int.le_trans h.v1 hm, h.g0, by have := h.gl; have := h.v1; omega, fun x hx => by have := h.keyl x hx; omega, fun x hx => by have := h.vall x hx; omega, h.til⟩
theorem newC_good (b : Int) : GoodC (newC b) 0 := by
  unfold newC
  refine ⟨by simp only; omega, by simp only; omega, by simp [keys], by simp only [usedL_nil]; omega, (fun x hx => by cases hx), (fun x hx => by cases hx), (fun x hx => by cases hx), Int.le_refl _, Int.le_refl _, Int.le_refl _, by simp⟩

/-- A cache of one's own, in words of its items, and boxes beside it. -/
def OwnC (w0 w : World) (c : Nat) (s : CSt) (m : Int) (B : List (Nat × Obj)) : Prop := GoodC s m ∧ Bes w0 c (fun _ => False) s B w
section
variable {w0 w w' : World} {c : Nat} {s s' : CSt} {m : Int} {B : List (Nat × Obj)}
theorem OwnC.kept0 (h : OwnC w0 w c s m B) (hk : Kept (fun _ => False) w w') : OwnC w0 w' c s m B := ⟨h.1, h.2.kept0 hk⟩
theorem OwnC.alloc (h : OwnC w0 w c s m B) (o : Obj) : OwnC w0 (w.alloc o) c s m ((w.heap.size, o) :: B) := ⟨h.1, h.2.alloc o⟩
theorem OwnC.keep (h : OwnC w0 w c s m B) : Kept (fun _ => False) w0 w := by
  obtain ⟨O', h1, h2, _⟩ := h.2.cs
  exact h2.1
theorem own_newc (hk : Kept (fun _ => False) w0 w) (hL0 : Laid w0) (budget : Int) (h0 : -9223372036854775808 ≤ budget) (h1 : budget ≤ 9223372036854775807) :
    Calls Tryz.prog 5 #[.int .i64 budget] w fun e w' => ∃ c, e = .returned (.pointer (some ⟨c, 0, none⟩)) ∧ OwnC w0 w' c (newC budget) 0 [] := by
  refine (cnew budget w (hL0.kept hk (fun _ _ h => h)) h0 h1).mono ?_
  rintro e w' ⟨c, rfl, hc, ⟨O, h2, h3⟩, hk2⟩
  have := hk.size
  exact ⟨c, rfl, newC_good budget, ⟨O, h2, ⟨hk.trans hk2 (fun _ _ h => h), fun k hO => .inr (by have := h3 k hO; omega)⟩, fun p hp => by cases hp⟩, (fun p hp => by cases hp), (fun k hg => hL0.lt hg), List.nodup_nil⟩
theorem own_do (h : OwnC w0 w c s m B) (hm : m ≤ 1000000000) (x : Cm) (now : Int) (hk : x.key.size ≤ 1000000000) (hv : x.val.size ≤ 1000000000) (h11 : x.op ≠ 11) (h12 : x.op ≠ 12) {r : Rp} (hr : doC s x now = (r, s')) :
    Calls Tryz.prog 8 #[.pointer (some ⟨c, 0, none⟩), .agg #[.int .i64 x.op, .string x.key, .string x.val, .int .i64 x.num, .int .i64 x.ver], .int .i64 now] w fun e w' => e = .returned (.agg #[.int .i64 r.errno, .string r.val, .int .i64 r.num, .int .i64 r.ver, .slice none 0 0]) ∧ OwnC w0 w' c s' (m + 1) B := by
  have hg' := h.1.does x now
  have hc := h.2.calls (f := 8) (s' := (doC s x now).2) fun O' h' => cdo c O' s x now w h' (h.1.fit hm) hk hv h11 h12
  rw [hr] at hg' hc
  refine hc.mono ?_
  rintro e w' ⟨rfl, hb⟩
  exact ⟨rfl, hg', hb⟩
theorem own_used (h : OwnC w0 w c s m B) : Calls Tryz.prog 19 #[.pointer (some ⟨c, 0, none⟩)] w fun e w' => e = .returned (.int .i64 (usedL s.U)) ∧ w = w' := by
  obtain ⟨O', h1, _⟩ := h.2.cs
  exact cused c O' s w h1
theorem own_gone (h : OwnC w0 w c s m B) : Calls Tryz.prog 21 #[.pointer (some ⟨c, 0, none⟩)] w fun e w' => e = .returned (.int .i64 s.gone) ∧ w = w' := by
  obtain ⟨O', h1, _⟩ := h.2.cs
  exact cgone c O' s w h1
end
/-- A reply's box as it was laid. -/
theorem rp_facts {w : World} {b : Nat} {r : Rp} {kv : Value} (h : w.heap[b]? = some (rpO r kv)) : w.cell? ⟨b, 0, none⟩ = some (.int .i64 r.errno) ∧ w.cell? ⟨b, 1, none⟩ = some (.string r.val) ∧ w.cell? ⟨b, 2, none⟩ = some (.int .i64 r.num) ∧ w.cell? ⟨b, 3, none⟩ = some (.int .i64 r.ver) ∧ w.cell? ⟨b, 4, none⟩ = some kv ∧ b < w.heap.size :=
  ⟨cell_at h 0, cell_at h 1, cell_at h 2, cell_at h 3, cell_at h 4, lt_of_block h⟩

/-- Set, where there is room. -/
theorem do_set {s : CSt} {x : Cm} {now : Int} (hr : rightC x) (hop : x.op = 2) (hn : 0 ≤ x.num) (h0 : 0 ≤ now) (h1 : now ≤ 1000000000000) (hroom : usedL (putC (sweepC now s.U) ⟨x.key, x.val, s.ver + 1, untilC x.num now⟩) ≤ s.bud) :
    doC s x now = (⟨0, ⟨#[]⟩, 0, s.ver + 1, []⟩, ⟨s.bud, putC (sweepC now s.U) ⟨x.key, x.val, s.ver + 1, untilC x.num now⟩, s.ver + 1, s.gone⟩) := by
  unfold doC
  rw [if_neg (fun h => h.elim (fun h => h hr) (fun h => by omega))]
  unfold didC
  rw [if_pos (.inl hop)]
  unfold setC
  rw [if_neg (by omega), if_neg (fun h => by omega), if_neg (fun h => by omega), if_neg (fun h => by omega)]
  have hc : ¬ s.bud < costI ⟨x.key, x.val, 0, untilC x.num now⟩ := by
    have h2 := usedL_snoc (delL (sweepC now s.U) x.key) ⟨x.key, x.val, s.ver + 1, untilC x.num now⟩
    have h3 := usedL_ge (delL (sweepC now s.U) x.key)
    have h4 : costI ⟨x.key, x.val, s.ver + 1, untilC x.num now⟩ = costI ⟨x.key, x.val, 0, untilC x.num now⟩ := rfl
    unfold putC at hroom
    simp only at hroom
    omega
  rw [writeC_fits (s := { s with U := sweepC now s.U }) hc]
  simp only
  rw [evict_room hroom, Int.sub_self, Int.add_zero]

theorem d_num5 : numberB ⟨#[53]⟩ = some 5 := by
  have h1 : Lib.atoiAll (⟨#[53]⟩ : ByteArray).data.toList = .ok 5 := by decide +kernel
  have h2 : itoaB 5 = ⟨#[53]⟩ := by
    unfold itoaB Lib.itoa
    rw [if_neg (by decide), show (5 : Int).toNat = 5 from rfl, Lib.decDigits_one (by decide)]
    rfl
  unfold numberB
  rw [h1]
  simp only
  rw [if_pos ⟨h2, by decide, by decide⟩]
theorem d_txt7 : itoaB 7 = ⟨#[55]⟩ := by
  unfold itoaB Lib.itoa
  rw [if_neg (by decide), show (7 : Int).toNat = 7 from rfl, Lib.decDigits_one (by decide)]
  rfl
theorem incr_ok {s s' : CSt} {x : It} {n v : Int} {t vv : ByteArray} {nn ve : Int} {ks : List ByteArray} (h1 : numberB x.val = some v) (h2 : ¬ (v + n < -1000000000000 ∨ 1000000000000 < v + n)) (h3 : itoaB (v + n) = t) (h4 : writeC s ⟨x.key, t, x.ver, x.til⟩ = (⟨0, vv, nn, ve, ks⟩, s')) :
    incrC s x n = (⟨0, vv, v + n, ve, ks⟩, s') := by
  unfold incrC
  rw [h1]
  simp only
  rw [if_neg h2, h3, h4]
  rfl
theorem d_one : doC (newC 100) ⟨2, ⟨#[97]⟩, ⟨#[53]⟩, 0, 0⟩ 1 = (⟨0, ⟨#[]⟩, 0, 1, []⟩, ⟨100, [⟨⟨#[97]⟩, ⟨#[53]⟩, 1, 0⟩], 1, 0⟩) := by
  refine do_set (by decide +kernel) rfl (by decide) (by decide) (by decide) (by decide +kernel)
theorem d_two : doC ⟨100, [⟨⟨#[97]⟩, ⟨#[53]⟩, 1, 0⟩], 1, 0⟩ ⟨7, ⟨#[97]⟩, ⟨#[]⟩, 2, 0⟩ 1 = (⟨0, ⟨#[]⟩, 7, 2, []⟩, ⟨100, [⟨⟨#[97]⟩, ⟨#[55]⟩, 2, 0⟩], 2, 0⟩) := by
  have e : doC ⟨100, [⟨⟨#[97]⟩, ⟨#[53]⟩, 1, 0⟩], 1, 0⟩ ⟨7, ⟨#[97]⟩, ⟨#[]⟩, 2, 0⟩ 1 = incrC ⟨100, [⟨⟨#[97]⟩, ⟨#[53]⟩, 1, 0⟩], 1, 0⟩ ⟨⟨#[97]⟩, ⟨#[53]⟩, 1, 0⟩ 2 := by kernel_rfl
  rw [e]
  exact incr_ok (v := 5) (nn := 0) d_num5 (by decide) d_txt7 (by kernel_rfl)

set_option maxHeartbeats 4000000 in
theorem alive_true (w : World) (hL : Laid w) : Calls Tryz.prog 4 #[] w fun e w' => e = .returned (.bool true) ∧ Kept (fun _ => False) w w' := by
  have NEW := Lib.hid (own_newc (Kept.refl (fun _ => False) w) hL 100 (by decide) (by decide))
  clear hL
  go_enter Tryz.func4, Tryz.ntmps4
  go_wp2_with fail
  refine NEW.out.mono ?_
  rintro e w1 ⟨c, rfl, h1⟩
  have DO1 := Lib.hid (own_do h1 (by decide) ⟨2, ⟨#[97]⟩, ⟨#[53]⟩, 0, 0⟩ 1 (by decide) (by decide) (by decide) (by decide) d_one)
  clear h1 NEW
  go_wp2_with fail
  refine DO1.out.mono ?_
  rintro e w2 ⟨rfl, h2⟩
  have DO2 := Lib.hid (own_do (h2.alloc (rpO ⟨0, ⟨#[]⟩, 0, 1, []⟩ (.slice none 0 0))) (by decide) ⟨7, ⟨#[97]⟩, ⟨#[]⟩, 2, 0⟩ 1 (by decide) (by decide) (by decide) (by decide) d_two)
  clear h2 DO1
  obtain ⟨b2, hb2⟩ : ∃ b2, b2 = w2.heap.size := ⟨_, rfl⟩
  rw [← hb2] at DO2
  go_wp2_with fail
  rw [← hb2]
  refine DO2.out.mono ?_
  rintro e w3 ⟨rfl, h3⟩
  have h4 := h3.alloc (rpO ⟨0, ⟨#[]⟩, 7, 2, []⟩ (.slice none 0 0))
  have US := Lib.hid (own_used h4)
  have KE := Lib.hid h4.keep
  obtain ⟨f0, f1, f2, f3, f4, f5⟩ := rp_facts (h3.2.box (b2, rpO ⟨0, ⟨#[]⟩, 0, 1, []⟩ (.slice none 0 0)) (.head _)).1
  simp only at f0 f1 f2 f3 f4
  have CO := Lib.hid (fun W => cost_any ⟨⟨#[97]⟩, ⟨#[55]⟩, 0, 0⟩ W (by decide) (by decide))
  clear h3 h4 hb2 DO2
  go_wp2_with fail
  refine US.out.mono ?_
  rintro e w4 ⟨rfl, rfl⟩
  rw [show usedL (CSt.U ⟨100, [⟨⟨#[97]⟩, ⟨#[55]⟩, 2, 0⟩], 2, 0⟩) = 18 from by decide]
  go_wp2_with fail
  refine (CO.out _).mono ?_
  rintro e w4 ⟨rfl, hk4⟩
  rw [show costI ⟨⟨#[97]⟩, ⟨#[55]⟩, 0, 0⟩ = 18 from by decide]
  go_wp2_with fail
  go_ret
  exact ⟨rfl, KE.out.trans hk4 (fun _ _ h => h)⟩
end Go.Proofs.YtekcjoogggoijaaGreatDoor
