/-
  Package cache in words of items: plain laws, no program in sight.
-/
import Derived.Test.YtehpafebpgndeaaGreatDoorTabI
import Derived.Lib.AtoiAll
import Derived.Lib.ItoaNum
namespace Go.Proofs.YtehpafebpgndeaaGreatDoor
set_option linter.unusedVariables false
set_option linter.unusedSimpArgs false
set_option linter.unnecessarySimpa false
open Go.RowKit

/-- What an item costs. -/
def costI (x : It) : Int := 16 + (x.key.size : Int) + (x.val.size : Int)
def usedL (U : List It) : Int := (U.map costI).sum
theorem usedL_nil : usedL [] = 0 := rfl
theorem usedL_cons (x : It) (U : List It) : usedL (x :: U) = costI x + usedL U := rfl
theorem usedL_append (U V : List It) : usedL (U ++ V) = usedL U + usedL V := by
  induction U with
  | nil => simp [usedL_nil]
  | cons x U ih => rw [List.cons_append, usedL_cons, usedL_cons, ih]; omega
theorem usedL_snoc (U : List It) (x : It) : usedL (U ++ [x]) = usedL U + costI x := by rw [usedL_append, usedL_cons, usedL_nil]; omega
theorem costI_pos (x : It) : 16 ≤ costI x := by unfold costI; omega
theorem usedL_ge : ∀ U : List It, 16 * (U.length : Int) ≤ usedL U
  | [] => by simp [usedL_nil]
  | x :: U => by have h1 := usedL_ge U; have h2 := costI_pos x; rw [usedL_cons, List.length_cons]; omega
theorem usedL_perm {U V : List It} (h : U.Perm V) : usedL U = usedL V := by
  unfold usedL
  induction h with
  | nil => rfl
  | cons x _ ih => simp only [List.map_cons, List.sum_cons]; omega
  | swap x y l => simp only [List.map_cons, List.sum_cons]; omega
  | trans _ _ h1 h2 => exact h1.trans h2
theorem usedL_le_of_mem {U : List It} {x : It} (h : x ∈ U) : costI x ≤ usedL U := by
  induction U with
  | nil => cases h
  | cons y U ih =>
    rw [usedL_cons]
    have h1 := usedL_ge U
    have h2 := costI_pos y
    rcases List.mem_cons.1 h with rfl | h
    · omega
    · have := ih h; omega
theorem usedL_filter_le (p : It → Bool) : ∀ U : List It, usedL (U.filter p) ≤ usedL U
  | [] => Int.le_refl _
  | x :: U => by
    have h1 := usedL_filter_le p U
    have h2 := costI_pos x
    rw [List.filter_cons]
    split
    · rw [usedL_cons, usedL_cons]; omega
    · rw [usedL_cons]; omega

theorem keys_del (U : List It) (k : ByteArray) : keys (delL U k) = (keys U).filter (fun x => decide (x ≠ k)) := by
  unfold keys delL
  rw [List.filter_map]
  rfl
/-- What is used without the item of a key. -/
theorem usedL_del_some {U : List It} (hn : (keys U).Nodup) {k : ByteArray} {x : It} (h : look U k = some x) : usedL (delL U k) = usedL U - costI x := by
  obtain ⟨hm, hk⟩ := (look_mem hn).1 h
  obtain ⟨i, hi, he⟩ := List.getElem_of_mem hm
  have hd := del_erase k U i x hn (by rw [List.getElem?_eq_getElem hi, he]) hk
  have hp : U.Perm (x :: delL U k) := by
    rw [hd, List.eraseIdx_eq_take_drop_succ, ← he]
    have e : U = U.take i ++ U[i] :: U.drop (i + 1) := by rw [← List.drop_eq_getElem_cons hi, List.take_append_drop]
    exact (List.Perm.of_eq e).trans List.perm_middle
  rw [usedL_perm hp, usedL_cons]
  omega
theorem look_none_del {U : List It} {k : ByteArray} (h : look U k = none) : delL U k = U := by
  refine del_absent ?_
  rw [← look_has, h]
  rfl
theorem usedL_del_none {U : List It} {k : ByteArray} (h : look U k = none) : usedL (delL U k) = usedL U := by rw [look_none_del h]

/-- The cache's items, that which was used longest ago first; what it may use; the last version; how many were evicted. -/
structure CSt where
  bud : Int
  U : List It
  ver : Int
  gone : Int
/-- A command. -/
structure Cm where
  op : Int
  key : ByteArray
  val : ByteArray
  num : Int
  ver : Int
/-- A reply. -/
structure Rp where
  errno : Int
  val : ByteArray
  num : Int
  ver : Int
  keys : List ByteArray
def Rp.err (e : Int) : Rp := ⟨e, ⟨#[]⟩, 0, 0, []⟩

def putC (U : List It) (x : It) : List It := delL U x.key ++ [x]
def overB (now : Int) (x : It) : Bool := decide (0 < x.til) && decide (x.til < now)
def sweepC (now : Int) (U : List It) : List It := U.filter (fun x => !overB now x)
/-- Those that were used longest ago go, till there is room. -/
def evict (bud : Int) : List It → List It
  | [] => []
  | x :: r => if usedL (x :: r) ≤ bud then x :: r else evict bud r
def untilC (n now : Int) : Int := if n = 0 then 0 else now + n

def writeC (s : CSt) (x : It) : Rp × CSt :=
  if s.bud < costI x then (Rp.err 13, s)
  else
    let U := putC s.U ⟨x.key, x.val, s.ver + 1, x.til⟩
    (⟨0, ⟨#[]⟩, 0, s.ver + 1, []⟩, ⟨s.bud, evict s.bud U, s.ver + 1, s.gone + ((U.length : Int) - ((evict s.bud U).length : Int))⟩)
def itoaB (n : Int) : ByteArray := ⟨(Lib.itoa n).toArray⟩
/-- A text as a number. -/
def numberB (s : ByteArray) : Option Int :=
  match Lib.atoiAll s.data.toList with
  | .ok v => if itoaB v = s ∧ -1000000000000 ≤ v ∧ v ≤ 1000000000000 then some v else none
  | _ => none
def setC (s : CSt) (x : Cm) (now : Int) : Rp × CSt :=
  if x.num < 0 then (Rp.err 1, s)
  else if x.op = 3 ∧ hasB s.U x.key = true then (Rp.err 10, s)
  else if (x.op = 4 ∨ x.op = 6) ∧ hasB s.U x.key = false then (Rp.err 9, s)
  else if x.op = 6 ∧ x.ver ≠ ((look s.U x.key).getD It.none).ver then (Rp.err 11, s)
  else writeC s ⟨x.key, x.val, 0, untilC x.num now⟩
def bltB (x y : ByteArray) : Bool := decide (x.data.toList < y.data.toList)
def scanL (U : List It) (key value : ByteArray) (n : Nat) : List ByteArray :=
  ((sortB (keys U)).filter fun k => Lib.hasPrefix k.data.toList key.data.toList && bltB value k).take n
def scanC (s : CSt) (x : Cm) : Rp × CSt :=
  if x.num < 1 ∨ 40 < x.num then (Rp.err 1, s) else (⟨0, ⟨#[]⟩, 0, 0, scanL s.U x.key x.val x.num.toNat⟩, s)
def incrC (s : CSt) (x : It) (n : Int) : Rp × CSt :=
  match numberB x.val with
  | some v =>
    if v + n < -1000000000000 ∨ 1000000000000 < v + n then (Rp.err 12, s)
    else
      let r := writeC s ⟨x.key, itoaB (v + n), x.ver, x.til⟩
      (if r.1.errno = 0 then ⟨0, r.1.val, v + n, r.1.ver, r.1.keys⟩ else r.1, r.2)
  | none => (Rp.err 12, s)
def behindC (s : CSt) (x : It) (more : ByteArray) : Rp × CSt :=
  if 500 < (x.val.size : Int) + more.size then (Rp.err 13, s) else writeC s ⟨x.key, x.val ++ more, x.ver, x.til⟩
def itemC (s : CSt) (x : Cm) (now : Int) : Rp × CSt :=
  if x.op = 9 ∧ x.num < 0 then (Rp.err 1, s)
  else match look s.U x.key with
    | none => (Rp.err 9, s)
    | some was =>
      if x.op = 1 then (⟨0, was.val, 0, was.ver, []⟩, { s with U := putC s.U was })
      else if x.op = 10 then (if was.til = 0 then ⟨0, ⟨#[]⟩, -1, 0, []⟩ else ⟨0, ⟨#[]⟩, was.til - now, 0, []⟩, s)
      else if x.op = 5 then (Rp.err 0, { s with U := delL s.U x.key })
      else if x.op = 9 then (Rp.err 0, { s with U := putC s.U ⟨was.key, was.val, was.ver, untilC x.num now⟩ })
      else if x.op = 7 then incrC s was x.num
      else behindC s was x.val
/-- May a command be? -/
def keyOk (op : Int) (k : ByteArray) : Prop :=
  if op = 11 then k.size ≤ 60 else if op = 12 ∨ op = 13 then k.size = 0 else 1 ≤ k.size ∧ k.size ≤ 60
def rightC (x : Cm) : Prop := 1 ≤ x.op ∧ x.op ≤ 13 ∧ keyOk x.op x.key ∧ x.val.size ≤ 500 ∧ -1000000000000 ≤ x.num ∧ x.num ≤ 1000000000000 ∧ 0 ≤ x.ver ∧ x.ver ≤ 1000000000000
instance (op : Int) (k : ByteArray) : Decidable (keyOk op k) := by unfold keyOk; infer_instance
instance (x : Cm) : Decidable (rightC x) := by unfold rightC; infer_instance
def didC (s : CSt) (x : Cm) (now : Int) : Rp × CSt :=
  if x.op = 2 ∨ x.op = 3 ∨ x.op = 4 ∨ x.op = 6 then setC s x now
  else if x.op = 11 then scanC s x
  else if x.op = 12 then (⟨0, ⟨#[]⟩, s.U.length, 0, []⟩, { s with U := [] })
  else if x.op = 13 then (⟨0, ⟨#[]⟩, s.U.length, usedL s.U, []⟩, s)
  else itemC s x now
def doC (s : CSt) (x : Cm) (now : Int) : Rp × CSt :=
  if ¬ rightC x ∨ now < 0 ∨ 1000000000000 < now then (Rp.err 1, s) else didC { s with U := sweepC now s.U } x now

/-- A cache as it is between two commands. -/
structure Good (s : CSt) : Prop where
  b0 : 0 ≤ s.bud
  b1 : s.bud ≤ 1000000
  nodup : (keys s.U).Nodup
  used : usedL s.U ≤ s.bud
  keyl : ∀ x ∈ s.U, x.key.size ≤ 60
  vall : ∀ x ∈ s.U, x.val.size ≤ 500
  til0 : ∀ x ∈ s.U, 0 ≤ x.til ∧ x.til ≤ 2000000000000
  ver0 : 0 ≤ s.ver
  gone0 : 0 ≤ s.gone
theorem Good.len {s : CSt} (h : Good s) : s.U.length ≤ 62500 := by have := usedL_ge s.U; have := h.used; have := h.b1; omega

theorem evict_suffix (bud : Int) : ∀ U : List It, evict bud U <:+ U
  | [] => List.suffix_refl _
  | x :: r => by
    unfold evict
    split
    · exact List.suffix_refl _
    · exact (evict_suffix bud r).trans (List.suffix_cons _ _)
theorem evict_used {bud : Int} (h : 0 ≤ bud) : ∀ U : List It, usedL (evict bud U) ≤ bud
  | [] => h
  | x :: r => by
    unfold evict
    split
    · assumption
    · exact evict_used h r
theorem evict_room {bud : Int} {U : List It} (h : usedL U ≤ bud) : evict bud U = U := by
  cases U with
  | nil => rfl
  | cons x r => unfold evict; rw [if_pos h]
theorem evict_step {bud : Int} {x : It} {r : List It} (h : ¬ usedL (x :: r) ≤ bud) : evict bud (x :: r) = evict bud r := by
  rw [evict, if_neg h]
/-- The last one stays, if it has room alone. -/
theorem evict_last {bud : Int} {x : It} (hx : costI x ≤ bud) : ∀ U : List It, ∃ V, evict bud (U ++ [x]) = V ++ [x] ∧ V <:+ U
  | [] => ⟨[], by rw [List.nil_append, evict_room (by rw [usedL_cons, usedL_nil]; omega)], List.suffix_refl _⟩
  | y :: U => by
    by_cases h : usedL (y :: (U ++ [x])) ≤ bud
    · exact ⟨y :: U, by rw [List.cons_append, evict_room h], List.suffix_refl _⟩
    · obtain ⟨V, h1, h2⟩ := evict_last hx U
      exact ⟨V, by rw [List.cons_append, evict_step h, h1], h2.trans (List.suffix_cons _ _)⟩
end Go.Proofs.YtehpafebpgndeaaGreatDoor
