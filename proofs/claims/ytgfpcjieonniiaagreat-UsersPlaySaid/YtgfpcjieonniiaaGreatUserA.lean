/-
  The walks of package users: of, Secret, Fail, Good, Locked, Fails, over users in memory.
-/
import Derived.Test.YtgfpcjieonniiaaGreatMap
import Derived.Test.YtgfpcjieonniiaaGreatAtom
import Derived.Test.YtgfpcjieonniiaaGreatRight
import Derived.BigRegion
import Derived.BigQuiet
import Derived.Deep.QuietTactic
import Derived.Deep.RegionLaw
import Derived.Deep.DeepCutAuto
import Derived.WalkSpells
import Derived.WalkLawsBesides
namespace Go.Proofs.YtgfpcjieonniiaaGreat
set_option linter.unusedVariables false
set_option linter.unusedSimpArgs false
set_option linter.unnecessarySimpa false
open Go.RowKit Go.Maps

/-- A user: the name, the block, the secret, the failures, was there ever a lock, till when. -/
structure Usr where
  name : ByteArray
  blk : Nat
  secret : ByteArray
  fails : Int
  locked : Bool
  till : Int

def Usr.cells (x : Usr) : Array Value := #[.string x.secret, .int .i64 x.fails, .bool x.locked, .int .i64 x.till]

/-- What the map holds at a key. -/
def atName (L : List Usr) (kl : Lit) : Option Value :=
  match kl with
  | .string bs => (L.find? (fun x => x.name.data.toList == bs)).map (fun x => .pointer (some ⟨x.blk, 0, none⟩))
  | _ => none

/-- Users in memory: the box at block b leads to the map at block m, which leads to the users of L. -/
structure UsersAt (w : World) (b m : Nat) (L : List Usr) : Prop where
  box : w.heap[b]? = some (.cells #[.map (some m)] 64 (0, 0))
  map : Mp w Tryz.prog 9 m L.length (atName L)
  user : ∀ x ∈ L, w.heap[x.blk]? = some (.cells x.cells 73 (0, 0))
  bm : b ≠ m
  xb : ∀ x ∈ L, x.blk ≠ b ∧ x.blk ≠ m
  apart : (L.map (·.blk)).Nodup
  names : (L.map (·.name)).Nodup

def findU (L : List Usr) (n : ByteArray) : Option Usr := L.find? (fun x => x.name.data.toList == n.data.toList)

/-- The blocks of users. -/
def usersF (b m : Nat) (L : List Usr) (k : Nat) : Prop := k = b ∨ k = m ∨ ∃ x ∈ L, x.blk = k

theorem UsersAt.kept {w w' : World} {b m : Nat} {L : List Usr} {S : Nat → Prop} (h : UsersAt w b m L) (hk : Kept S w w') (hS : ∀ k, usersF b m L k → ¬ S k) : UsersAt w' b m L :=
  ⟨(hk.block b (lt_of_block h.box) (hS b (.inl rfl))).trans h.box, h.map.kept hk (hS m (.inr (.inl rfl))), fun x hx => (hk.block x.blk (lt_of_block (h.user x hx)) (hS _ (.inr (.inr ⟨x, hx, rfl⟩)))).trans (h.user x hx), h.bm, h.xb, h.apart, h.names⟩
theorem UsersAt.lt {w : World} {b m : Nat} {L : List Usr} (h : UsersAt w b m L) {k : Nat} (hk : usersF b m L k) : k < w.heap.size := by
  rcases hk with rfl | rfl | ⟨x, hx, rfl⟩
  · exact lt_of_block h.box
  · exact h.map.lt
  · exact lt_of_block (h.user x hx)

theorem findU_some {L : List Usr} {n : ByteArray} {x : Usr} (h : findU L n = some x) : x ∈ L ∧ x.name.data.toList = n.data.toList :=
  ⟨List.mem_of_find?_eq_some h, by simpa using List.find?_some h⟩

theorem skey : Keyed Tryz.prog 9 := string_keyed Tryz.underlying9
theorem zero_user (w : World) : (zeroValue 65).run Tryz.prog w = .ok (.pointer none) w := by kernel_rfl

/-- The pointer to a user: nil, if there is none. -/
def userPtr (o : Option Usr) : Value := .pointer (o.map (fun x => ⟨x.blk, 0, none⟩))

theorem UsersAt.look {w : World} {b m : Nat} {L : List Usr} (h : UsersAt w b m L) (n : ByteArray) (hn : n.size ≤ maxLen) :
    (Instr.lookup 62 (.map (some m)) (.string n) false).run Tryz.prog w = .ok (userPtr (findU L n)) w := by
  have hkey := WideMaps.keyOf_string_mk Tryz.underlying9 hn
  cases hf : findU L n with
  | none => exact h.map.look_none skey Tryz.underlying62 (zero_user w) hkey (by
      show (L.find? (fun x => x.name.data.toList == n.data.toList)).map _ = none
      unfold findU at hf
      rw [hf]; rfl)
  | some x => exact h.map.look skey Tryz.underlying62 (zero_user w) hkey (by
      show (L.find? (fun x => x.name.data.toList == n.data.toList)).map _ = _
      unfold findU at hf
      rw [hf]; rfl)

theorem of_any (b m : Nat) (L : List Usr) (n : ByteArray) (w : World) (h : UsersAt w b m L) (hn : n.size ≤ maxLen) :
    Calls Tryz.prog 29 #[.pointer (some ⟨b, 0, none⟩), .string n] w fun e w' => e = .returned (userPtr (findU L n)) ∧ w = w' := by
  have hl := h.look n hn
  have k0 := cell_at h.box 0
  simp at k0
  generalize userPtr (findU L n) = u at *
  go_enter Tryz.func29, Tryz.ntmps29
  go_wp2_with fail
  go_ret
  exact ⟨rfl, rfl⟩

/-- of, where there is such a user; and where there is none. -/
theorem of_some {b m : Nat} {L : List Usr} {n : ByteArray} {w : World} {x : Usr} (h : UsersAt w b m L) (hn : n.size ≤ maxLen) (hf : findU L n = some x) :
    Calls Tryz.prog 29 #[.pointer (some ⟨b, 0, none⟩), .string n] w fun e w' => e = .returned (.pointer (some ⟨x.blk, 0, none⟩)) ∧ w = w' := by
  have := of_any b m L n w h hn
  rw [hf] at this
  exact this
theorem of_none {b m : Nat} {L : List Usr} {n : ByteArray} {w : World} (h : UsersAt w b m L) (hn : n.size ≤ maxLen) (hf : findU L n = none) :
    Calls Tryz.prog 29 #[.pointer (some ⟨b, 0, none⟩), .string n] w fun e w' => e = .returned (.pointer none) ∧ w = w' := by
  have := of_any b m L n w h hn
  rw [hf] at this
  exact this

/-- The users with one of them turned. -/
def turn (L : List Usr) (x : Usr) : List Usr := L.map (fun y => if y.blk = x.blk then x else y)

theorem nodup_inj {α β : Type} (f : α → β) : ∀ {l : List α}, (l.map f).Nodup → ∀ {x y : α}, x ∈ l → y ∈ l → f x = f y → x = y
  | [], _, _, _, h, _, _ => by cases h
  | z :: l, hn, x, y, hx, hy, e => by
    rw [List.map_cons, List.nodup_cons] at hn
    rcases List.mem_cons.1 hx with ex | hx'
    · rcases List.mem_cons.1 hy with ey | hy'
      · rw [ex, ey]
      · exact absurd (by rw [← ex, e]; exact List.mem_map_of_mem hy') hn.1
    · rcases List.mem_cons.1 hy with ey | hy'
      · exact absurd (by rw [← ey, ← e]; exact List.mem_map_of_mem hx') hn.1
      · exact nodup_inj f hn.2 hx' hy' e

theorem UsersAt.turned {w w' : World} {b m : Nat} {L : List Usr} {x x' : Usr} (h : UsersAt w b m L) (hx : x ∈ L) (hb : x'.blk = x.blk) (hn : x'.name = x.name) (hc : w'.heap[x.blk]? = some (.cells x'.cells 73 (0, 0))) (hk : Kept (fun k => k = x.blk) w w') : UsersAt w' b m (turn L x') := by
  have hbl : (turn L x').map (·.blk) = L.map (·.blk) := by
    rw [turn, List.map_map]
    refine List.map_congr_left fun y hy => ?_
    simp only [Function.comp]
    split
    · rename_i e; exact e.symm
    · rfl
  have hinj : ∀ y ∈ L, y.blk = x'.blk → y = x := fun y hy e => by
    exact nodup_inj (·.blk) h.apart hy hx (e.trans hb)
  have hnm : (turn L x').map (·.name) = L.map (·.name) := by
    rw [turn, List.map_map]
    refine List.map_congr_left fun y hy => ?_
    simp only [Function.comp]
    split
    · rename_i e; rw [hinj y hy e, hn]
    · rfl
  have hxb := h.xb x hx
  refine ⟨(hk.block b (lt_of_block h.box) (fun e => hxb.1 e.symm)).trans h.box, ?_, ?_, h.bm, ?_, by rw [hbl]; exact h.apart, by rw [hnm]; exact h.names⟩
  · have := h.map.kept hk (fun e => hxb.2 e.symm)
    rw [show (turn L x').length = L.length by simp [turn]]
    refine this.ext fun kl => ?_
    cases kl <;> try rfl
    rename_i bs
    have hfind : ∀ M : List Usr, (∀ y ∈ M, y ∈ L) → ((turn M x').find? (fun y => y.name.data.toList == bs)).map (fun y => Value.pointer (some ⟨y.blk, 0, none⟩)) = (M.find? (fun y => y.name.data.toList == bs)).map (fun y => Value.pointer (some ⟨y.blk, 0, none⟩)) := by
      intro M
      induction M with
      | nil => intro _; rfl
      | cons y M ih =>
        intro hM
        have hy := hM y (by simp)
        have e1 : (if y.blk = x'.blk then x' else y).name = y.name := by
          split
          · rename_i e; rw [hinj y hy e, hn]
          · rfl
        have e2 : (if y.blk = x'.blk then x' else y).blk = y.blk := by
          split
          · rename_i e; exact e.symm
          · rfl
        have ih' := ih (fun z hz => hM z (by simp [hz]))
        simp only [turn, List.map_cons, List.find?_cons] at ih' ⊢
        rw [e1]
        split
        · simp [e2]
        · exact ih'
    exact (hfind L (fun _ h => h)).symm
  · intro y hy
    simp only [turn, List.mem_map] at hy
    obtain ⟨z, hz, rfl⟩ := hy
    split
    · rename_i e
      rw [hb]
      exact hc
    · rename_i e
      exact (hk.block z.blk (lt_of_block (h.user z hz)) (fun e' => e (e'.trans hb.symm))).trans (h.user z hz)
  · intro y hy
    simp only [turn, List.mem_map] at hy
    obtain ⟨z, hz, rfl⟩ := hy
    split
    · rw [hb]; exact hxb
    · exact h.xb z hz
end Go.Proofs.YtgfpcjieonniiaaGreat
