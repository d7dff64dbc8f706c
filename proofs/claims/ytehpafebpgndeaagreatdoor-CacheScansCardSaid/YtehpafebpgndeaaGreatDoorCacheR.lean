/-
  A cache of a law's own; the library's variables as the row lists them; alive.
-/
import Derived.Test.YtehpafebpgndeaaGreatDoorCacheN
import Derived.Test.YtehpafebpgndeaaGreatDoorCacheQ
import Derived.Test.YtehpafebpgndeaaGreatDoorRows
import Derived.Stop.LaidErr
import Derived.Lib.LaidTab
import Derived.LaidLaws
namespace Go.Proofs.YtehpafebpgndeaaGreatDoor
set_option linter.unusedVariables false
set_option linter.unusedSimpArgs false
set_option linter.unnecessarySimpa false
open Go.RowKit Go.ChangeShapes
set_option maxRecDepth 100000

theorem estar : "*" ++ "errors.errorString" = "*errors.errorString" := by decide
theorem erow (u : TypeId) (h : Tryz.prog.typeName? 3 u = some "*errors.errorString") : u = 214 :=
  typeName_ptr_named (nm := "errors.errorString") (by rw [estar]; kernel_rfl) (by kernel_rfl) (by decide) u (by rw [estar]; exact h)
theorem gsynT : (Tryz.prog.globals[0]?).map (·.type) = some 92 := by kernel_rfl
theorem grngT : (Tryz.prog.globals[1]?).map (·.type) = some 92 := by kernel_rfl
theorem gtabT : (Tryz.prog.globals[2]?).map (·.type) = some 218 := by kernel_rfl
theorem ecells : Tryz.prog.cellsOf 216 = 1 := by kernel_rfl
theorem scells : Tryz.prog.cellsOf 9 = 1 := by kernel_rfl
theorem tcells : Tryz.prog.cellsOf 218 = 20 := by kernel_rfl
theorem ucells : Tryz.prog.cellsOf 110 = 1 := by kernel_rfl
/-- What each row's list gives. -/
theorem laid_of {W : World} (h : laidMetH Tryz.prog Rows.cacheTicksRow.laid W) : Laid W := by
  have h0 : laidMet Tryz.prog (("math/bits.deBruijn32tab", Rows.laid_math_bits_deBruijn32tab) :: ("math/bits.deBruijn64tab", Rows.laid_math_bits_deBruijn64tab) :: ("internal/strconv.uint64pow10", Lib.tabData .u64 Lib.pow10Tab) ::
    ("strconv.ErrRange", .iface "*errors.errorString" (.ptr (.agg [.lit (.string [118, 97, 108, 117, 101, 32, 111, 117, 116, 32, 111, 102, 32, 114, 97, 110, 103, 101])]))) :: ("strconv.ErrSyntax", .iface "*errors.errorString" (.ptr (.agg [.lit (.string [105, 110, 118, 97, 108, 105, 100, 32, 115, 121, 110, 116, 97, 120])]))) :: []) W := h
  have h2 := h0.tail.tail
  have h3 := h2.tail
  have h4 := h3.tail
  refine ⟨?_, ?_, ?_⟩
  · obtain ⟨a, s, hv, -, -, -⟩ := laid_sentinel h4 gsyn gsynT Tryz.underlying92 erow Tryz.underlying214 Tryz.underlying216 rfl rfl Tryz.underlying9 ecells scells
    exact ⟨_, _, hv⟩
  · obtain ⟨a, s, hv, -, -, -⟩ := laid_sentinel h3 grng grngT Tryz.underlying92 erow Tryz.underlying214 Tryz.underlying216 rfl rfl Tryz.underlying9 ecells scells
    exact ⟨_, _, hv⟩
  · exact Lib.tabIs_of_head gtab gtabT Tryz.underlying218 Tryz.underlying110 ucells tcells h2

theorem GoodC.fit {s : CSt} {m : Int} (h : GoodC s m) (hm : m ≤ 1000000000) : FitC s :=
  ⟨h.b0, h.b1, Int.le_trans h.used h.b1, h.v0, Int.le_trans h.v1 hm, h.g0, by have := h.gl; have := h.v1; omega, fun x hx => by have := h.keyl x hx; omega, fun x hx => by have := h.vall x hx; omega, h.til⟩
theorem newC_good (b : Int) : GoodC (newC b) 0 := by
  unfold newC
  refine ⟨by simp only; omega, by simp only; omega, by simp [keys], by simp only [usedL_nil]; omega, (fun x hx => by cases hx), (fun x hx => by cases hx), (fun x hx => by cases hx), Int.le_refl _, Int.le_refl _, Int.le_refl _, by simp⟩

/-- A cache of one's own, in words of its items, and boxes beside it. -/
def OwnC (w0 w : World) (c : Nat) (s : CSt) (m : Int) (B : List (Nat × Obj)) : Prop := GoodC s m ∧ Bes w0 c (fun _ => False) s B w
section
variable {w0 w w' : World} {c : Nat} {s s' : CSt} {m : Int} {B : List (Nat × Obj)}
theorem OwnC.kept0 (h : OwnC w0 w c s m B) (hk : Kept (fun _ => False) w w') : OwnC w0 w' c s m B := ⟨h.1, h.2.kept0 hk⟩
theorem OwnC.alloc (h : OwnC w0 w c s m B) (o : Obj) : OwnC w0 (w.alloc o) c s m ((w.heap.size, o) :: B) := ⟨h.1, h.2.alloc o⟩
theorem OwnC.keep (h : OwnC w0 w c s m B) : Kept (fun _ => False) w0 w := by
  obtain ⟨O', h1, h2, _⟩ := h.2.cs
  exact h2.1
theorem own_newc (hk : Kept (fun _ => False) w0 w) (hL0 : Laid w0) (budget : Int) (h0 : -9223372036854775808 ≤ budget) (h1 : budget ≤ 9223372036854775807) :
    Calls Tryz.prog 26 #[.int .i64 budget] w fun e w' => ∃ c, e = .returned (.pointer (some ⟨c, 0, none⟩)) ∧ OwnC w0 w' c (newC budget) 0 [] := by
  refine (cnew budget w (hL0.kept hk (fun _ _ h => h)) h0 h1).mono ?_
  rintro e w' ⟨c, rfl, hc, ⟨O, h2, h3⟩, hk2⟩
  have := hk.size
  exact ⟨c, rfl, newC_good budget, ⟨O, h2, ⟨hk.trans hk2 (fun _ _ h => h), fun k hO => .inr (by have := h3 k hO; omega)⟩, fun p hp => by cases hp⟩, (fun p hp => by cases hp), (fun k hg => hL0.lt hg), List.nodup_nil⟩
theorem own_do (h : OwnC w0 w c s m B) (hm : m ≤ 1000000000) (x : Cm) (now : Int) (hk : x.key.size ≤ 1000000000) (hv : x.val.size ≤ 1000000000) (h11 : x.op ≠ 11) (h12 : x.op ≠ 12) {r : Rp} (hr : doC s x now = (r, s')) :
    Calls Tryz.prog 27 #[.pointer (some ⟨c, 0, none⟩), .agg #[.int .i64 x.op, .string x.key, .string x.val, .int .i64 x.num, .int .i64 x.ver], .int .i64 now] w fun e w' => e = .returned (.agg #[.int .i64 r.errno, .string r.val, .int .i64 r.num, .int .i64 r.ver, .slice none 0 0]) ∧ OwnC w0 w' c s' (m + 1) B := by
  have hg' := h.1.does x now
  have hc := h.2.calls (f := 27) (s' := (doC s x now).2) fun O' h' => cdo c O' s x now w h' (h.1.fit hm) hk hv h11 h12
  rw [hr] at hg' hc
  refine hc.mono ?_
  rintro e w' ⟨rfl, hb⟩
  exact ⟨rfl, hg', hb⟩
theorem own_used (h : OwnC w0 w c s m B) : Calls Tryz.prog 31 #[.pointer (some ⟨c, 0, none⟩)] w fun e w' => e = .returned (.int .i64 (usedL s.U)) ∧ w = w' := by
  obtain ⟨O', h1, _⟩ := h.2.cs
  exact cused c O' s w h1
theorem own_gone (h : OwnC w0 w c s m B) : Calls Tryz.prog 30 #[.pointer (some ⟨c, 0, none⟩)] w fun e w' => e = .returned (.int .i64 s.gone) ∧ w = w' := by
  obtain ⟨O', h1, _⟩ := h.2.cs
  exact cgone c O' s w h1
end
/-- A reply's box as it was laid. -/
theorem rp_facts {w : World} {b : Nat} {r : Rp} {kv : Value} (h : w.heap[b]? = some (rpO r kv)) : w.cell? ⟨b, 0, none⟩ = some (.int .i64 r.errno) ∧ w.cell? ⟨b, 1, none⟩ = some (.string r.val) ∧ w.cell? ⟨b, 2, none⟩ = some (.int .i64 r.num) ∧ w.cell? ⟨b, 3, none⟩ = some (.int .i64 r.ver) ∧ w.cell? ⟨b, 4, none⟩ = some kv ∧ b < w.heap.size :=
  ⟨cell_at h 0, cell_at h 1, cell_at h 2, cell_at h 3, cell_at h 4, lt_of_block h⟩

/-- Set, where there is room. -/
theorem do_set {s : CSt} {x : Cm} {now : Int} (hr : rightC x) (hop : x.op = 2) (hn : 0 ≤ x.num) (h0 : 0 ≤ now) (h1 : now ≤ 1000000000000) (hroom : usedL (putC (sweepC now s.U) ⟨x.key, x.val, s.ver + 1, untilC x.num now⟩) ≤ s.bud) :
    doC s x now = (⟨0, ⟨#[]⟩, 0, s.ver + 1, []⟩, ⟨s.bud, putC (sweepC now s.U) ⟨x.key, x.val, s.ver + 1, untilC x.num now⟩, s.ver + 1, s.gone⟩) := by
  unfold doC
  rw [if_neg (fun h => h.elim (fun h => h hr) (fun h => by omega))]
  unfold didC
  rw [if_pos (.inl hop)]
  unfold setC
  rw [if_neg (by omega), if_neg (fun h => by omega), if_neg (fun h => by omega), if_neg (fun h => by omega)]
  have hc : ¬ s.bud < costI ⟨x.key, x.val, 0, untilC x.num now⟩ := by
    have h2 := usedL_snoc (delL (sweepC now s.U) x.key) ⟨x.key, x.val, s.ver + 1, untilC x.num now⟩
    have h3 := usedL_ge (delL (sweepC now s.U) x.key)
    have h4 : costI ⟨x.key, x.val, s.ver + 1, untilC x.num now⟩ = costI ⟨x.key, x.val, 0, untilC x.num now⟩ := rfl
    unfold putC at hroom
    simp only at hroom
    omega
  rw [writeC_fits (s := { s with U := sweepC now s.U }) hc]
  simp only
  rw [evict_room hroom, Int.sub_self, Int.add_zero]

theorem d_num5 : numberB ⟨#[53]⟩ = some 5 := by
  have h1 : Lib.atoiAll (⟨#[53]⟩ : ByteArray).data.toList = .ok 5 := by decide +kernel
  have h2 : itoaB 5 = ⟨#[53]⟩ := by
    unfold itoaB Lib.itoa
    rw [if_neg (by decide), show (5 : Int).toNat = 5 from rfl, Lib.decDigits_one (by decide)]
    rfl
  unfold numberB
  rw [h1]
  simp only
  rw [if_pos ⟨h2, by decide, by decide⟩]
theorem d_txt7 : itoaB 7 = ⟨#[55]⟩ := by
  unfold itoaB Lib.itoa
  rw [if_neg (by decide), show (7 : Int).toNat = 7 from rfl, Lib.decDigits_one (by decide)]
  rfl
theorem incr_ok {s s' : CSt} {x : It} {n v : Int} {t vv : ByteArray} {nn ve : Int} {ks : List ByteArray} (h1 : numberB x.val = some v) (h2 : ¬ (v + n < -1000000000000 ∨ 1000000000000 < v + n)) (h3 : itoaB (v + n) = t) (h4 : writeC s ⟨x.key, t, x.ver, x.til⟩ = (⟨0, vv, nn, ve, ks⟩, s')) :
    incrC s x n = (⟨0, vv, v + n, ve, ks⟩, s') := by
  unfold incrC
  rw [h1]
  simp only
  rw [if_neg h2, h3, h4]
  rfl
theorem d_one : doC (newC 100) ⟨2, ⟨#[97]⟩, ⟨#[53]⟩, 0, 0⟩ 1 = (⟨0, ⟨#[]⟩, 0, 1, []⟩, ⟨100, [⟨⟨#[97]⟩, ⟨#[53]⟩, 1, 0⟩], 1, 0⟩) := by
  refine do_set (by decide +kernel) rfl (by decide) (by decide) (by decide) (by decide +kernel)
theorem d_two : doC ⟨100, [⟨⟨#[97]⟩, ⟨#[53]⟩, 1, 0⟩], 1, 0⟩ ⟨7, ⟨#[97]⟩, ⟨#[]⟩, 2, 0⟩ 1 = (⟨0, ⟨#[]⟩, 7, 2, []⟩, ⟨100, [⟨⟨#[97]⟩, ⟨#[55]⟩, 2, 0⟩], 2, 0⟩) := by
  have e : doC ⟨100, [⟨⟨#[97]⟩, ⟨#[53]⟩, 1, 0⟩], 1, 0⟩ ⟨7, ⟨#[97]⟩, ⟨#[]⟩, 2, 0⟩ 1 = incrC ⟨100, [⟨⟨#[97]⟩, ⟨#[53]⟩, 1, 0⟩], 1, 0⟩ ⟨⟨#[97]⟩, ⟨#[53]⟩, 1, 0⟩ 2 := by kernel_rfl
  rw [e]
  exact incr_ok (v := 5) (nn := 0) d_num5 (by decide) d_txt7 (by kernel_rfl)

set_option maxHeartbeats 4000000 in
theorem alive_true (w : World) (hL : Laid w) : Calls Tryz.prog 21 #[] w fun e w' => e = .returned (.bool true) ∧ Kept (fun _ => False) w w' := by
  have NEW := Lib.hid (own_newc (Kept.refl (fun _ => False) w) hL 100 (by decide) (by decide))
  clear hL
  go_enter Tryz.func21, Tryz.ntmps21
  go_wp2_with fail
  refine NEW.out.mono ?_
  rintro e w1 ⟨c, rfl, h1⟩
  have DO1 := Lib.hid (own_do h1 (by decide) ⟨2, ⟨#[97]⟩, ⟨#[53]⟩, 0, 0⟩ 1 (by decide) (by decide) (by decide) (by decide) d_one)
  clear h1 NEW
  go_wp2_with fail
  refine DO1.out.mono ?_
  rintro e w2 ⟨rfl, h2⟩
  have DO2 := Lib.hid (own_do (h2.alloc (rpO ⟨0, ⟨#[]⟩, 0, 1, []⟩ (.slice none 0 0))) (by decide) ⟨7, ⟨#[97]⟩, ⟨#[]⟩, 2, 0⟩ 1 (by decide) (by decide) (by decide) (by decide) d_two)
  clear h2 DO1
  obtain ⟨b2, hb2⟩ : ∃ b2, b2 = w2.heap.size := ⟨_, rfl⟩
  rw [← hb2] at DO2
  go_wp2_with fail
  rw [← hb2]
  refine DO2.out.mono ?_
  rintro e w3 ⟨rfl, h3⟩
  have h4 := h3.alloc (rpO ⟨0, ⟨#[]⟩, 7, 2, []⟩ (.slice none 0 0))
  have US := Lib.hid (own_used h4)
  have KE := Lib.hid h4.keep
  obtain ⟨f0, f1, f2, f3, f4, f5⟩ := rp_facts (h3.2.box (b2, rpO ⟨0, ⟨#[]⟩, 0, 1, []⟩ (.slice none 0 0)) (.head _)).1
  simp only at f0 f1 f2 f3 f4
  have CO := Lib.hid (fun W => cost_any ⟨⟨#[97]⟩, ⟨#[55]⟩, 0, 0⟩ W (by decide) (by decide))
  clear h3 h4 hb2 DO2
  go_wp2_with fail
  refine US.out.mono ?_
  rintro e w4 ⟨rfl, rfl⟩
  rw [show usedL (CSt.U ⟨100, [⟨⟨#[97]⟩, ⟨#[55]⟩, 2, 0⟩], 2, 0⟩) = 18 from by decide]
  go_wp2_with fail
  refine (CO.out _).mono ?_
  rintro e w4 ⟨rfl, hk4⟩
  rw [show costI ⟨⟨#[97]⟩, ⟨#[55]⟩, 0, 0⟩ = 18 from by decide]
  go_wp2_with fail
  go_ret
  exact ⟨rfl, KE.out.trans hk4 (fun _ _ h => h)⟩
end Go.Proofs.YtehpafebpgndeaaGreatDoor
