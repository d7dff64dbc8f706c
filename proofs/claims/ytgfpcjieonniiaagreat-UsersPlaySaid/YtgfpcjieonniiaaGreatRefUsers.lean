/-
  The reference's users in memory: At, Fail, Good, IsLocked.
-/
import Derived.Test.YtgfpcjieonniiaaGreatUserA
import Derived.Test.YtgfpcjieonniiaaGreatBook
import Derived.Deep.LoopGhost
namespace Go.Proofs.YtgfpcjieonniiaaGreat
set_option linter.unusedVariables false
set_option linter.unusedSimpArgs false
set_option linter.unnecessarySimpa false
open Go.RowKit
set_option maxRecDepth 100000

def refCells (x : Usr) : List Value := [.string x.name, .string x.secret]
/-- The reference's users: the box at rb, its four rows, all of them of G. -/
structure RefAt (w : World) (rb : Nat) (G : Nat → Prop) (vL vF vU vK : Value) (L : List Usr) : Prop where
  blk : w.heap[rb]? = some (.cells #[vL, vF, vU, vK] 55 (0, 0))
  sL : Sl w 32 2 L.length vL (L.flatMap refCells)
  sF : Sl w 3 1 L.length vF (L.map fun x => .int .i64 x.fails)
  sU : Sl w 3 1 L.length vU (L.map fun x => .int .i64 x.till)
  sK : Sl w 4 1 L.length vK (L.map fun x => .bool x.locked)
  own : ∀ k, G k ↔ k = rb ∨ vL.ownBlock = some k ∨ vF.ownBlock = some k ∨ vU.ownBlock = some k ∨ vK.ownBlock = some k
  dF : ∀ k, vF.ownBlock = some k → k ≠ rb ∧ vL.ownBlock ≠ some k ∧ vU.ownBlock ≠ some k ∧ vK.ownBlock ≠ some k
  dU : ∀ k, vU.ownBlock = some k → k ≠ rb ∧ vL.ownBlock ≠ some k ∧ vF.ownBlock ≠ some k ∧ vK.ownBlock ≠ some k
  dK : ∀ k, vK.ownBlock = some k → k ≠ rb ∧ vL.ownBlock ≠ some k ∧ vF.ownBlock ≠ some k ∧ vU.ownBlock ≠ some k

section
variable {w w' : World} {rb : Nat} {G S : Nat → Prop} {vL vF vU vK : Value} {L : List Usr}
theorem RefAt.kept (h : RefAt w rb G vL vF vU vK L) (hk : Kept S w w') (hS : ∀ k, G k → ¬ S k) : RefAt w' rb G vL vF vU vK L :=
  ⟨(hk.block rb (lt_of_block h.blk) (hS rb ((h.own rb).2 (.inl rfl)))).trans h.blk, h.sL.kept hk (fun k e => hS k ((h.own k).2 (.inr (.inl e)))), h.sF.kept hk (fun k e => hS k ((h.own k).2 (.inr (.inr (.inl e))))),
    h.sU.kept hk (fun k e => hS k ((h.own k).2 (.inr (.inr (.inr (.inl e)))))), h.sK.kept hk (fun k e => hS k ((h.own k).2 (.inr (.inr (.inr (.inr e)))))), h.own, h.dF, h.dU, h.dK⟩
theorem RefAt.lt (h : RefAt w rb G vL vF vU vK L) (k : Nat) (hk : G k) : k < w.heap.size := by
  rcases (h.own k).1 hk with rfl | e | e | e | e
  · exact lt_of_block h.blk
  · exact h.sL.lt e
  · exact h.sF.lt e
  · exact h.sU.lt e
  · exact h.sK.lt e
end

theorem ref_name {w : World} {v : Value} {L : List Usr} {ao : Option Addr} {m c : Nat} (h : Rd w 2 L.length v (L.flatMap refCells)) (hv : v = .slice ao m c) (i : Nat) (hi : i < L.length) :
    ∃ g off, ao = some ⟨g, off, none⟩ ∧ w.cell? ⟨g, off + i * 2, none⟩ = some (.string (L[i]).name) ∧ w.cell? ⟨g, off + i * 2 + 1, none⟩ = some (.string (L[i]).secret) := by
  subst hv
  obtain ⟨_, _, hc⟩ := h.at
  have hlen : ∀ (M : List Usr) (j : Nat) (hj : j < M.length) (t : Nat), t < 2 → (M.flatMap refCells)[j * 2 + t]? = (refCells M[j])[t]? := by
    intro M
    induction M with
    | nil => intro j hj; simp at hj
    | cons x M ih =>
      intro j hj t ht
      cases j with
      | zero =>
        rw [List.flatMap_cons, Nat.zero_mul, Nat.zero_add, List.getElem?_append_left (by simpa [refCells] using ht)]
        rfl
      | succ j =>
        rw [List.flatMap_cons, List.getElem?_append_right (by simp [refCells]; omega), show (j + 1) * 2 + t - (refCells x).length = j * 2 + t by simp [refCells]; omega]
        exact ih j (by simpa using hj) t ht
  obtain ⟨g, off, rfl, h0⟩ := hc _ _ ((hlen L i hi 0 (by omega)).trans rfl)
  obtain ⟨g', off', e, h1⟩ := hc _ _ ((hlen L i hi 1 (by omega)).trans rfl)
  injection e with e
  injection e with e1 e2
  subst e1 e2
  exact ⟨g, off, rfl, by simpa using h0, by simpa [Nat.add_assoc] using h1⟩

set_option maxHeartbeats 800000 in
/-- At: the place of a user. -/
theorem ref_at {w : World} {rb : Nat} {G : Nat → Prop} {vL vF vU vK : Value} {L : List Usr} (nm : ByteArray) (h : RefAt w rb G vL vF vU vK L) (hn : L.length ≤ 1000) (i : Nat) (hi : i ≤ L.length) (hno : ∀ (j : Nat) (hj : j < L.length), j < i → (L[j]).name ≠ nm) (hyes : ∀ (hj : i < L.length), (L[i]).name = nm) :
    Calls Tryz.prog 14 #[.pointer (some ⟨rb, 0, none⟩), .string nm] w fun e w' => e = .returned (.int .i64 (if i < L.length then (i : Int) else -1)) ∧ w = w' := by
  have k0 := cell_at h.blk 0
  simp at k0
  obtain ⟨ao, ca, rfl, hca⟩ := (Rd.of_sl h.sL).shape
  have HR := Lib.hid (fun j hj => ref_name (Rd.of_sl h.sL) rfl j hj)
  have HNO := Lib.hid hno
  have HY := Lib.hid hyes
  clear h hno hyes
  obtain ⟨n, hnn⟩ : ∃ n, n = L.length := ⟨_, rfl⟩
  rw [← hnn] at hn hi hca k0 ⊢
  have HN := Lib.hid hnn
  clear hnn
  go_enter Tryz.func14, Tryz.ntmps14
  go_wp2_with fail
  go_loopg [5] i (fun gk k wr => ∃ j : Nat, j + gk = i ∧ k = .int .i64 (j : Int) ∧ w = wr)
  case atStart => exact ⟨0, by omega, rfl, rfl⟩
  case round =>
    obtain ⟨j, hj, rfl, rfl⟩ := hrel
    by_cases hjn : j < n
    · obtain ⟨g, off, rfl, x0, x1⟩ := HR.out j (HN.out ▸ hjn)
      by_cases hji : j < i
      · have hne := HNO.out j (HN.out ▸ hjn) hji
        generalize L[j]'(HN.out ▸ hjn) = u at *
        have hbe : (u.name.toList == nm.toList) = false := beq_false_of_ne (fun e => hne (by rw [ByteArray.toList_eq, ByteArray.toList_eq] at e; exact ByteArray.ext (Array.ext' e)))
        go_wp2_with fail
        go_roundg (gk - 1)
        case measure => omega
        case rel => exact ⟨j + 1, by omega, by go_num, rfl⟩
      · obtain rfl : j = i := by omega
        have he := HY.out (HN.out ▸ hjn)
        generalize L[j]'(HN.out ▸ hjn) = u at *
        subst he
        go_wp2_with fail
        go_ret
        first | exact ⟨rfl, rfl⟩ | exact ⟨by simp [hjn], rfl⟩
    · obtain rfl : j = n := by omega
      go_wp2_with fail
      go_ret
      obtain rfl : j = i := by omega
      first | exact ⟨rfl, rfl⟩ | exact ⟨by simp, rfl⟩
end Go.Proofs.YtgfpcjieonniiaaGreat
