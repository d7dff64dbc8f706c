/-
  A cache in memory: what it owns, what its steps leave.
-/
import Derived.Test.YtekcjoogggoijaaGreatDoorCp08
import Derived.Lib.AtoiAll
import Derived.Lib.ItoaNum
import Derived.Test.YtekcjoogggoijaaGreatDoorProg
import Derived.Test.YtekcjoogggoijaaGreatDoorCp01
import Derived.Lib.Strings
import Derived.Lib.Walk
import Derived.Lib.BufferWrite
import Derived.Lib.UnsafeStr
import Derived.Laws.MakeOwn
import Derived.Lib.LaidTab
set_option linter.unusedVariables false
set_option linter.unusedSimpArgs false
set_option linter.unnecessarySimpa false
namespace Go.Proofs.YtekcjoogggoijaaGreatDoor
open Go.RowKit

/-- What an item costs. -/
def costI (x : It) : Int := 16 + (x.key.size : Int) + (x.val.size : Int)
def usedL (U : List It) : Int := (U.map costI).sum
theorem usedL_nil : usedL [] = 0 := rfl
theorem usedL_cons (x : It) (U : List It) : usedL (x :: U) = costI x + usedL U := rfl
theorem usedL_append (U V : List It) : usedL (U ++ V) = usedL U + usedL V := by
  induction U with
  | nil => simp [usedL_nil]
  | cons x U ih => rw [List.cons_append, usedL_cons, usedL_cons, ih]; omega
theorem usedL_snoc (U : List It) (x : It) : usedL (U ++ [x]) = usedL U + costI x := by rw [usedL_append, usedL_cons, usedL_nil]; omega
theorem costI_pos (x : It) : 16 ≤ costI x := by unfold costI; omega
theorem usedL_ge : ∀ U : List It, 16 * (U.length : Int) ≤ usedL U
  | [] => by simp [usedL_nil]
  | x :: U => by have h1 := usedL_ge U; have h2 := costI_pos x; rw [usedL_cons, List.length_cons]; omega
theorem usedL_perm {U V : List It} (h : U.Perm V) : usedL U = usedL V := by
  unfold usedL
  induction h with
  | nil => rfl
  | cons x _ ih => simp only [List.map_cons, List.sum_cons]; omega
  | swap x y l => simp only [List.map_cons, List.sum_cons]; omega
  | trans _ _ h1 h2 => exact h1.trans h2
theorem usedL_le_of_mem {U : List It} {x : It} (h : x ∈ U) : costI x ≤ usedL U := by
  induction U with
  | nil => cases h
  | cons y U ih =>
    rw [usedL_cons]
    have h1 := usedL_ge U
    have h2 := costI_pos y
    rcases List.mem_cons.1 h with rfl | h
    · omega
    · have := ih h; omega
theorem usedL_filter_le (p : It → Bool) : ∀ U : List It, usedL (U.filter p) ≤ usedL U
  | [] => Int.le_refl _
  | x :: U => by
    have h1 := usedL_filter_le p U
    have h2 := costI_pos x
    rw [List.filter_cons]
    split
    · rw [usedL_cons, usedL_cons]; omega
    · rw [usedL_cons]; omega

theorem keys_del (U : List It) (k : ByteArray) : keys (delL U k) = (keys U).filter (fun x => decide (x ≠ k)) := by
  unfold keys delL
  rw [List.filter_map]
  rfl
/-- What is used without the item of a key. -/
theorem usedL_del_some {U : List It} (hn : (keys U).Nodup) {k : ByteArray} {x : It} (h : look U k = some x) : usedL (delL U k) = usedL U - costI x := by
  obtain ⟨hm, hk⟩ := (look_mem hn).1 h
  obtain ⟨i, hi, he⟩ := List.getElem_of_mem hm
  have hd := del_erase k U i x hn (by rw [List.getElem?_eq_getElem hi, he]) hk
  have hp : U.Perm (x :: delL U k) := by
    rw [hd, List.eraseIdx_eq_take_drop_succ, ← he]
    have e : U = U.take i ++ U[i] :: U.drop (i + 1) := by rw [← List.drop_eq_getElem_cons hi, List.take_append_drop]
    exact (List.Perm.of_eq e).trans List.perm_middle
  rw [usedL_perm hp, usedL_cons]
  omega
theorem look_none_del {U : List It} {k : ByteArray} (h : look U k = none) : delL U k = U := by
  refine del_absent ?_
  rw [← look_has, h]
  rfl
theorem usedL_del_none {U : List It} {k : ByteArray} (h : look U k = none) : usedL (delL U k) = usedL U := by rw [look_none_del h]

/-- The cache's items, that which was used longest ago first; what it may use; the last version; how many were evicted. -/
structure CSt where
  bud : Int
  U : List It
  ver : Int
  gone : Int
/-- A command. -/
structure Cm where
  op : Int
  key : ByteArray
  val : ByteArray
  num : Int
  ver : Int
/-- A reply. -/
structure Rp where
  errno : Int
  val : ByteArray
  num : Int
  ver : Int
  keys : List ByteArray
def Rp.err (e : Int) : Rp := ⟨e, ⟨#[]⟩, 0, 0, []⟩

def putC (U : List It) (x : It) : List It := delL U x.key ++ [x]
def overB (now : Int) (x : It) : Bool := decide (0 < x.til) && decide (x.til < now)
def sweepC (now : Int) (U : List It) : List It := U.filter (fun x => !overB now x)
/-- Those that were used longest ago go, till there is room. -/
def evict (bud : Int) : List It → List It
  | [] => []
  | x :: r => if usedL (x :: r) ≤ bud then x :: r else evict bud r
def untilC (n now : Int) : Int := if n = 0 then 0 else now + n

def writeC (s : CSt) (x : It) : Rp × CSt :=
  if s.bud < costI x then (Rp.err 13, s)
  else
    let U := putC s.U ⟨x.key, x.val, s.ver + 1, x.til⟩
    (⟨0, ⟨#[]⟩, 0, s.ver + 1, []⟩, ⟨s.bud, evict s.bud U, s.ver + 1, s.gone + ((U.length : Int) - ((evict s.bud U).length : Int))⟩)
def itoaB (n : Int) : ByteArray := ⟨(Lib.itoa n).toArray⟩
/-- A text as a number. -/
def numberB (s : ByteArray) : Option Int :=
  match Lib.atoiAll s.data.toList with
  | .ok v => if itoaB v = s ∧ -1000000000000 ≤ v ∧ v ≤ 1000000000000 then some v else none
  | _ => none
def setC (s : CSt) (x : Cm) (now : Int) : Rp × CSt :=
  if x.num < 0 then (Rp.err 1, s)
  else if x.op = 3 ∧ hasB s.U x.key = true then (Rp.err 10, s)
  else if (x.op = 4 ∨ x.op = 6) ∧ hasB s.U x.key = false then (Rp.err 9, s)
  else if x.op = 6 ∧ x.ver ≠ ((look s.U x.key).getD It.none).ver then (Rp.err 11, s)
  else writeC s ⟨x.key, x.val, 0, untilC x.num now⟩
def bltB (x y : ByteArray) : Bool := decide (x.data.toList < y.data.toList)
def scanL (U : List It) (key value : ByteArray) (n : Nat) : List ByteArray :=
  ((sortB (keys U)).filter fun k => Lib.hasPrefix k.data.toList key.data.toList && bltB value k).take n
def scanC (s : CSt) (x : Cm) : Rp × CSt :=
  if x.num < 1 ∨ 40 < x.num then (Rp.err 1, s) else (⟨0, ⟨#[]⟩, 0, 0, scanL s.U x.key x.val x.num.toNat⟩, s)
def incrC (s : CSt) (x : It) (n : Int) : Rp × CSt :=
  match numberB x.val with
  | some v =>
    if v + n < -1000000000000 ∨ 1000000000000 < v + n then (Rp.err 12, s)
    else
      let r := writeC s ⟨x.key, itoaB (v + n), x.ver, x.til⟩
      (if r.1.errno = 0 then ⟨0, r.1.val, v + n, r.1.ver, r.1.keys⟩ else r.1, r.2)
  | none => (Rp.err 12, s)
def behindC (s : CSt) (x : It) (more : ByteArray) : Rp × CSt :=
  if 500 < (x.val.size : Int) + more.size then (Rp.err 13, s) else writeC s ⟨x.key, x.val ++ more, x.ver, x.til⟩
def itemC (s : CSt) (x : Cm) (now : Int) : Rp × CSt :=
  if x.op = 9 ∧ x.num < 0 then (Rp.err 1, s)
  else match look s.U x.key with
    | none => (Rp.err 9, s)
    | some was =>
      if x.op = 1 then (⟨0, was.val, 0, was.ver, []⟩, { s with U := putC s.U was })
      else if x.op = 10 then (if was.til = 0 then ⟨0, ⟨#[]⟩, -1, 0, []⟩ else ⟨0, ⟨#[]⟩, was.til - now, 0, []⟩, s)
      else if x.op = 5 then (Rp.err 0, { s with U := delL s.U x.key })
      else if x.op = 9 then (Rp.err 0, { s with U := putC s.U ⟨was.key, was.val, was.ver, untilC x.num now⟩ })
      else if x.op = 7 then incrC s was x.num
      else behindC s was x.val
/-- May a command be? -/
def keyOk (op : Int) (k : ByteArray) : Prop :=
  if op = 11 then k.size ≤ 60 else if op = 12 ∨ op = 13 then k.size = 0 else 1 ≤ k.size ∧ k.size ≤ 60
def rightC (x : Cm) : Prop := 1 ≤ x.op ∧ x.op ≤ 13 ∧ keyOk x.op x.key ∧ x.val.size ≤ 500 ∧ -1000000000000 ≤ x.num ∧ x.num ≤ 1000000000000 ∧ 0 ≤ x.ver ∧ x.ver ≤ 1000000000000
instance (op : Int) (k : ByteArray) : Decidable (keyOk op k) := by unfold keyOk; infer_instance
instance (x : Cm) : Decidable (rightC x) := by unfold rightC; infer_instance
def didC (s : CSt) (x : Cm) (now : Int) : Rp × CSt :=
  if x.op = 2 ∨ x.op = 3 ∨ x.op = 4 ∨ x.op = 6 then setC s x now
  else if x.op = 11 then scanC s x
  else if x.op = 12 then (⟨0, ⟨#[]⟩, s.U.length, 0, []⟩, { s with U := [] })
  else if x.op = 13 then (⟨0, ⟨#[]⟩, s.U.length, usedL s.U, []⟩, s)
  else itemC s x now
def doC (s : CSt) (x : Cm) (now : Int) : Rp × CSt :=
  if ¬ rightC x ∨ now < 0 ∨ 1000000000000 < now then (Rp.err 1, s) else didC { s with U := sweepC now s.U } x now

/-- A cache as it is between two commands. -/
structure Good (s : CSt) : Prop where
  b0 : 0 ≤ s.bud
  b1 : s.bud ≤ 1000000
  nodup : (keys s.U).Nodup
  used : usedL s.U ≤ s.bud
  keyl : ∀ x ∈ s.U, x.key.size ≤ 60
  vall : ∀ x ∈ s.U, x.val.size ≤ 500
  til0 : ∀ x ∈ s.U, 0 ≤ x.til ∧ x.til ≤ 2000000000000
  ver0 : 0 ≤ s.ver
  gone0 : 0 ≤ s.gone
theorem Good.len {s : CSt} (h : Good s) : s.U.length ≤ 62500 := by have := usedL_ge s.U; have := h.used; have := h.b1; omega

theorem evict_suffix (bud : Int) : ∀ U : List It, evict bud U <:+ U
  | [] => List.suffix_refl _
  | x :: r => by
    unfold evict
    split
    · exact List.suffix_refl _
    · exact (evict_suffix bud r).trans (List.suffix_cons _ _)
theorem evict_used {bud : Int} (h : 0 ≤ bud) : ∀ U : List It, usedL (evict bud U) ≤ bud
  | [] => h
  | x :: r => by
    unfold evict
    split
    · assumption
    · exact evict_used h r
theorem evict_room {bud : Int} {U : List It} (h : usedL U ≤ bud) : evict bud U = U := by
  cases U with
  | nil => rfl
  | cons x r => unfold evict; rw [if_pos h]
theorem evict_step {bud : Int} {x : It} {r : List It} (h : ¬ usedL (x :: r) ≤ bud) : evict bud (x :: r) = evict bud r := by
  rw [evict, if_neg h]
/-- The last one stays, if it has room alone. -/
theorem evict_last {bud : Int} {x : It} (hx : costI x ≤ bud) : ∀ U : List It, ∃ V, evict bud (U ++ [x]) = V ++ [x] ∧ V <:+ U
  | [] => ⟨[], by rw [List.nil_append, evict_room (by rw [usedL_cons, usedL_nil]; omega)], List.suffix_refl _⟩
  | y :: U => by
    by_cases h : usedL (y :: (U ++ [x])) ≤ bud
    · exact ⟨y :: U, by rw [List.cons_append, evict_room h], List.suffix_refl _⟩
    · obtain ⟨V, h1, h2⟩ := evict_last hx U
      exact ⟨V, by rw [List.cons_append, evict_step h, h1], h2.trans (List.suffix_cons _ _)⟩
end Go.Proofs.YtekcjoogggoijaaGreatDoor
namespace Go.Proofs.YtekcjoogggoijaaGreatDoor
open Go.RowKit

theorem byte_info : (Tryz.prog.info? 5).map (fun i => (i.zero, i.size, i.bytes)) = some (some (.int .u8 0), 1, 1) := by kernel_rfl

set_option maxRecDepth 100000 in
set_option maxHeartbeats 1600000 in
theorem lite_clone (s : ByteArray) (w : World) (hlim : s.size ≤ 281474976710656) :
    Calls Tryz.prog 120 #[.string s] w fun e w' => e = .returned (.string s) ∧ Below w.heap.size w w' := by
  by_cases h0 : s.size = 0
  · obtain rfl : s = ⟨#[]⟩ := ByteArray.ext (Array.eq_empty_of_size_eq_zero h0)
    go_enter Tryz.func120, Tryz.ntmps120
    go_wp2
    go_ret
    exact ⟨rfl, Below.refl _ _⟩
  · obtain ⟨i0, hi, hz0, hz1, hz2⟩ := info_parts byte_info
    have hinfo : (Tryz.prog.info? 5).map (·.size) = some 1 := by rw [hi]; simp [hz1]
    have hco : Tryz.prog.cellsOf 5 = 1 := by simp [Program.cellsOf, hi, hz1]
    obtain ⟨M, hM⟩ : ∃ M, M = madeCells (Value.int .u8 0).cells (((s.size : Nat) : Int).toNat * i0.size) := ⟨_, rfl⟩
    have hMs : M.size = s.size := by rw [hM, size_madeCells, hz1]; simp
    have hmk : ∀ W : World, (Instr.makeSlice 123 (.int .i64 (s.size : Int)) (.int .i64 (s.size : Int))).run Tryz.prog W = .ok (.slice (some ⟨W.heap.size, 0, none⟩) s.size s.size) (W.alloc (.cells M 5)) := fun W => by
      have h := run_make (P := Tryz.prog) W 123 5 i0 (.int .u8 0) Tryz.underlying123 hi hz0 .i64 .i64 (s.size : Int) (s.size : Int) (by omega) (by omega) (by rw [hz2]; omega) (by omega)
      rw [← hM] at h
      simpa using h
    clear hM
    have hcp := Lib.run_copy_row_string (P := Tryz.prog) (w.alloc (.cells M 5)) 123 9 3 5 w.heap.size 0 s.size s.size s M 5 Tryz.underlying123 hinfo (heap_alloc_new w _) (Nat.le_refl _) (by omega)
    obtain ⟨Y, hY⟩ : ∃ Y, Y = (M.toList.take 0 ++ Lib.byteCells s.data.toList ++ M.toList.drop (0 + s.size)).toArray := ⟨_, rfl⟩
    rw [← hY] at hcp
    have hYl : Y.toList = Lib.byteCells s.data.toList := by
      rw [hY, List.toList_toArray, List.take_zero, List.nil_append, List.drop_of_length_le (by rw [Array.length_toList]; omega), List.append_nil]
    have hYs : Y.size = s.size := by rw [← Array.length_toList, hYl, Lib.byteCells_length, ← Lib.size_eq]
    have hgY : ((w.alloc (.cells M 5)).setRow w.heap.size Y).heap[w.heap.size]? = some (.cells Y 5 (0, 0)) := setRow_heap _ _ M _ 5 (0, 0) (heap_alloc_new w _)
    have hne : s.data.toList ≠ [] := fun e => h0 (by rw [Lib.size_eq, e]; rfl)
    have hUS := Lib.run_unsafeString_row (P := Tryz.prog) ((w.alloc (.cells M 5)).setRow w.heap.size Y) 178 3 9 5 Tryz.underlying178 hco w.heap.size Y.size (by unfold World.shape?; rw [hgY]) s.data.toList hne (by rw [← Lib.size_eq]; omega) (by rw [← Lib.size_eq]; omega)
      (fun j x hx => Lib.cells_of_row hgY Y.size j _ (by rw [List.take_of_length_le (by rw [Array.length_toList]; exact Nat.le_refl _), hYl]; simp [Lib.byteCells, hx]))
    rw [← Lib.size_eq] at hUS
    clear hY
    go_enter Tryz.func120, Tryz.ntmps120
    go_wp2
    go_ret
    have hb1 : Below w.heap.size w (w.alloc (.cells M 5)) := (Below.refl _ w).alloc (Nat.le_refl _) _
    have hb2 : Below w.heap.size (w.alloc (.cells M 5)) ((w.alloc (.cells M 5)).setRow w.heap.size Y) := ⟨rfl, rfl, rfl, by simp, fun k hk => setRow_other _ _ _ _ (by omega)⟩
    exact ⟨rfl, Lib.below_freeze (hb1.trans hb2) (p := ⟨w.heap.size, 0, none⟩) (Nat.le_refl _) _⟩

theorem strings_clone (s : ByteArray) (w : World) (hlim : s.size ≤ 281474976710656) :
    Calls Tryz.prog 106 #[.string s] w fun e w' => e = .returned (.string s) ∧ Kept (fun _ => False) w w' := by
  go_enter Tryz.func106, Tryz.ntmps106
  go_wp2_with (go_at_call 120; refine (lite_clone s _ hlim).mono ?_; rintro e w1 ⟨rfl, hb⟩)
  go_ret
  exact ⟨rfl, Kept.of_below hb⟩
end Go.Proofs.YtekcjoogggoijaaGreatDoor
namespace Go.Proofs.YtekcjoogggoijaaGreatDoor
open Go.RowKit
set_option maxRecDepth 100000

theorem Grew.keptT {O O' T : Nat → Prop} {a b c : World} (h : Grew O a O' b) (k : Kept T b c) (hT : ∀ i, i < a.heap.size → ¬ T i) : Grew O a O' c :=
  ⟨h.1.trans k (fun i hi ht => absurd ht (hT i hi)), h.2⟩

/-- The library's variables as they were laid. -/
structure Laid (w : World) : Prop where
  syn : ∃ tp p, w.var? Tryz.prog "strconv.ErrSyntax" = some #[.iface tp p]
  rng : ∃ tp p, w.var? Tryz.prog "strconv.ErrRange" = some #[.iface tp p]
  tab : Lib.TabIs Tryz.prog w "internal/strconv.uint64pow10" .u64 Lib.pow10Tab
theorem gsyn : Tryz.prog.globalNamed "strconv.ErrSyntax" = some 0 := by kernel_rfl
theorem grng : Tryz.prog.globalNamed "strconv.ErrRange" = some 1 := by kernel_rfl
theorem gtab : Tryz.prog.globalNamed "internal/strconv.uint64pow10" = some 2 := by kernel_rfl
/-- The blocks of those variables. -/
def isG (k : Nat) : Prop := k = 0 ∨ k = 1 ∨ k = 2
theorem var_same {w w' : World} {name : String} {g : Nat} (hg : Tryz.prog.globalNamed name = some g) (h : w'.heap[g]? = w.heap[g]?) : w'.var? Tryz.prog name = w.var? Tryz.prog name := by
  unfold World.var?
  rw [hg]
  simp [h]
theorem var_lt {w : World} {name : String} {g : Nat} {c : Array Value} (hg : Tryz.prog.globalNamed name = some g) (h : w.var? Tryz.prog name = some c) : g < w.heap.size := by
  unfold World.var? at h
  rw [hg] at h
  simp only [Option.bind_some] at h
  cases hb : w.heap[g]? with
  | none => rw [hb] at h; cases h
  | some o => exact lt_of_block hb
theorem Laid.lt {w : World} (h : Laid w) {k : Nat} (hk : isG k) : k < w.heap.size := by
  rcases hk with rfl | rfl | rfl
  · obtain ⟨tp, p, h1⟩ := h.syn
    exact var_lt gsyn h1
  · obtain ⟨tp, p, h1⟩ := h.rng
    exact var_lt grng h1
  · exact var_lt gtab h.tab
theorem Laid.kept {w w' : World} {T : Nat → Prop} (h : Laid w) (hk : Kept T w w') (hT : ∀ k, isG k → ¬ T k) : Laid w' := by
  have e : ∀ k, isG k → w'.heap[k]? = w.heap[k]? := fun k hg => hk.block k (h.lt hg) (hT k hg)
  refine ⟨?_, ?_, ?_⟩
  · obtain ⟨tp, p, h1⟩ := h.syn
    exact ⟨tp, p, by rw [var_same gsyn (e _ (.inl rfl))]; exact h1⟩
  · obtain ⟨tp, p, h1⟩ := h.rng
    exact ⟨tp, p, by rw [var_same grng (e _ (.inr (.inl rfl)))]; exact h1⟩
  · unfold Lib.TabIs
    rw [var_same gtab (e _ (.inr (.inr rfl)))]
    exact h.tab

/-- The blocks of a cache. -/
def cO (c : Nat) (v : Value) (Ot : Nat → Prop) (k : Nat) : Prop := k = c ∨ Ot k ∨ v.ownBlock = some k
/-- A cache in memory, in its parts: the order of its keys, the table's items, what is used. -/
structure CAt (w : World) (c bt S : Nat) (v : Value) (Ot : Nat → Prop) (bud : Int) (K : List ByteArray) (L : List It) (n ver gone : Int) : Prop where
  blk : w.heap[c]? = some (.cells #[.int .i64 bud, .pointer (some ⟨bt, 0, none⟩), v, .int .i64 n, .int .i64 ver, .int .i64 gone] 74 (0, 0))
  tab : Tb w bt Ot 0 S L
  ord : Sl w 9 1 K.length v (strs K)
  ct : ¬ Ot c
  vt : ∀ k, v.ownBlock = some k → ¬ Ot k ∧ k ≠ c
  sS : S ≤ 200000
  laid : Laid w
  above : ∀ k, cO c v Ot k → ¬ isG k

section
variable {w w' : World} {c bt S : Nat} {v : Value} {Ot : Nat → Prop} {bud : Int} {K : List ByteArray} {L : List It} {n ver gone : Int}
theorem CAt.lt (h : CAt w c bt S v Ot bud K L n ver gone) {k : Nat} (hk : cO c v Ot k) : k < w.heap.size := by
  rcases hk with rfl | hk | hk
  · exact lt_of_block h.blk
  · exact h.tab.lt k hk
  · exact h.ord.lt hk
theorem CAt.kept {T : Nat → Prop} (h : CAt w c bt S v Ot bud K L n ver gone) (hk : Kept T w w') (hd : ∀ k, cO c v Ot k → ¬ T k) (hg : ∀ k, isG k → ¬ T k) : CAt w' c bt S v Ot bud K L n ver gone :=
  ⟨(hk.block c (lt_of_block h.blk) (hd c (.inl rfl))).trans h.blk, h.tab.kept hk (fun k hO => hd k (.inr (.inl hO))), h.ord.kept hk (fun k hv => hd k (.inr (.inr hv))), h.ct, h.vt, h.sS, h.laid.kept hk hg, h.above⟩
theorem CAt.kept0 (h : CAt w c bt S v Ot bud K L n ver gone) (hk : Kept (fun _ => False) w w') : CAt w' c bt S v Ot bud K L n ver gone := h.kept hk (fun _ _ h => h) (fun _ _ h => h)
/-- A cell of the cache's own struct. -/
theorem CAt.own (h : CAt w c bt S v Ot bud K L n ver gone) (o : Nat) (u : Value) : Kept (fun k => k = c) w (w.setCell ⟨c, o, none⟩ u) := kept_at u (Kept.refl _ w)
theorem CAt.rest (h : CAt w c bt S v Ot bud K L n ver gone) (o : Nat) (u : Value) : Tb (w.setCell ⟨c, o, none⟩ u) bt Ot 0 S L ∧ Sl (w.setCell ⟨c, o, none⟩ u) 9 1 K.length v (strs K) ∧ Laid (w.setCell ⟨c, o, none⟩ u) ∧ Grew (cO c v Ot) w (cO c v Ot) (w.setCell ⟨c, o, none⟩ u) :=
  ⟨h.tab.kept (h.own o u) (fun k hO e => h.ct (e ▸ hO)), h.ord.kept (h.own o u) (fun k hv e => (h.vt k hv).2 e), h.laid.kept (h.own o u) (fun k hg e => h.above k (.inl e) hg),
    ⟨(h.own o u).mono (fun k _ e => .inl e), fun k hk => .inl hk⟩⟩
theorem CAt.setUsed (h : CAt w c bt S v Ot bud K L n ver gone) (m : Int) : CAt (w.setCell ⟨c, 3, none⟩ (.int .i64 m)) c bt S v Ot bud K L m ver gone ∧ Grew (cO c v Ot) w (cO c v Ot) (w.setCell ⟨c, 3, none⟩ (.int .i64 m)) := by
  obtain ⟨h1, h2, h3, h4⟩ := h.rest 3 (.int .i64 m)
  exact ⟨⟨by rw [setCell_block h.blk]; rfl, h1, h2, h.ct, h.vt, h.sS, h3, h.above⟩, h4⟩
theorem CAt.setVer (h : CAt w c bt S v Ot bud K L n ver gone) (m : Int) : CAt (w.setCell ⟨c, 4, none⟩ (.int .i64 m)) c bt S v Ot bud K L n m gone ∧ Grew (cO c v Ot) w (cO c v Ot) (w.setCell ⟨c, 4, none⟩ (.int .i64 m)) := by
  obtain ⟨h1, h2, h3, h4⟩ := h.rest 4 (.int .i64 m)
  exact ⟨⟨by rw [setCell_block h.blk]; rfl, h1, h2, h.ct, h.vt, h.sS, h3, h.above⟩, h4⟩
theorem CAt.setGone (h : CAt w c bt S v Ot bud K L n ver gone) (m : Int) : CAt (w.setCell ⟨c, 5, none⟩ (.int .i64 m)) c bt S v Ot bud K L n ver m ∧ Grew (cO c v Ot) w (cO c v Ot) (w.setCell ⟨c, 5, none⟩ (.int .i64 m)) := by
  obtain ⟨h1, h2, h3, h4⟩ := h.rest 5 (.int .i64 m)
  exact ⟨⟨by rw [setCell_block h.blk]; rfl, h1, h2, h.ct, h.vt, h.sS, h3, h.above⟩, h4⟩
/-- Another order, in its own row or in a new one. -/
theorem CAt.setOrd (h : CAt w c bt S v Ot bud K L n ver gone) {w1 : World} {v' : Value} {K' : List ByteArray} (hk : Kept (fun k => v.ownBlock = some k) w w1) (hs : Sl w1 9 1 K'.length v' (strs K')) (ho : ∀ k, v'.ownBlock = some k → v.ownBlock = some k ∨ w.heap.size ≤ k) :
    CAt (w1.setCell ⟨c, 2, none⟩ v') c bt S v' Ot bud K' L n ver gone ∧ Grew (cO c v Ot) w (cO c v' Ot) (w1.setCell ⟨c, 2, none⟩ v') := by
  have hcl := lt_of_block h.blk
  have hvc : v.ownBlock ≠ some c := fun e => (h.vt c e).2 rfl
  have hb1 := (hk.block c hcl hvc).trans h.blk
  have ht1 := h.tab.kept hk (fun k hO e => (h.vt k e).1 hO)
  have hl1 := h.laid.kept hk (fun k hg e => h.above k (.inr (.inr e)) hg)
  have hk2 : Kept (fun k => k = c) w1 (w1.setCell ⟨c, 2, none⟩ v') := kept_at v' (Kept.refl _ w1)
  have hne : ∀ k, v'.ownBlock = some k → ¬ Ot k ∧ k ≠ c := by
    intro k e
    rcases ho k e with h1 | h1
    · exact h.vt k h1
    · exact ⟨fun hO => by have := h.tab.lt k hO; omega, by omega⟩
  refine ⟨⟨by rw [setCell_block hb1]; rfl, ht1.kept hk2 (fun k hO e => h.ct (e ▸ hO)), hs.kept hk2 (fun k hv e => (hne k hv).2 e), h.ct, hne, h.sS, hl1.kept hk2 (fun k hg e => h.above k (.inl e) hg), ?_⟩,
    (hk.mono (fun k _ e => .inr (.inr e))).trans (hk2.mono (fun k _ e => .inl e)) (fun _ _ h => h), ?_⟩
  · intro k hO hg
    rcases hO with e | hO | hO
    · exact h.above k (.inl e) hg
    · exact h.above k (.inr (.inl hO)) hg
    · rcases ho k hO with h1 | h1
      · exact h.above k (.inr (.inr h1)) hg
      · have := h.laid.lt hg; omega
  · intro k hO
    rcases hO with e | hO | hO
    · exact .inl (.inl e)
    · exact .inl (.inr (.inl hO))
    · exact (ho k hO).imp (fun e => .inr (.inr e)) id
/-- A step of the table. -/
theorem CAt.tabStep (h : CAt w c bt S v Ot bud K L n ver gone) {Ot' : Nat → Prop} {S' : Nat} {L' : List It} (ht : Tb w' bt Ot' 0 S' L') (hg : Grew Ot w Ot' w') (hS : S' ≤ 200000) :
    CAt w' c bt S' v Ot' bud K L' n ver gone ∧ Grew (cO c v Ot) w (cO c v Ot') w' := by
  have hcl := lt_of_block h.blk
  have hO' : ∀ k, k < w.heap.size → ¬ Ot k → ¬ Ot' k := fun k hk hn hO => (hg.2 k hO).elim hn (fun e => by omega)
  refine ⟨⟨(hg.1.block c hcl h.ct).trans h.blk, ht, h.ord.kept hg.1 (fun k hv => (h.vt k hv).1), hO' c hcl h.ct, fun k hv => ⟨hO' k (h.ord.lt hv) (h.vt k hv).1, (h.vt k hv).2⟩, hS, h.laid.kept hg.1 (fun k hgk hO => h.above k (.inr (.inl hO)) hgk), ?_⟩,
    hg.1.mono (fun k _ hO => .inr (.inl hO)), ?_⟩
  · intro k hO hgk
    rcases hO with e | hO | hO
    · exact h.above k (.inl e) hgk
    · rcases hg.2 k hO with h1 | h1
      · exact h.above k (.inr (.inl h1)) hgk
      · have := h.laid.lt hgk; omega
    · exact h.above k (.inr (.inr hO)) hgk
  · intro k hO
    rcases hO with e | hO | hO
    · exact .inl (.inl e)
    · exact (hg.2 k hO).imp (fun e => .inr (.inl e)) id
    · exact .inl (.inr (.inr hO))
end

/-- A block that was laid ahead of a step of the table. -/
theorem CAt.boxed {w : World} {c bt S : Nat} {v : Value} {Ot : Nat → Prop} {bud : Int} {K : List ByteArray} {L : List It} {n ver gone : Int} (h : CAt w c bt S v Ot bud K L n ver gone) (z : Obj) {w3 : World} {O' : Nat → Prop} (hg : Grew Ot (w.alloc z).drew O' w3) :
    w3.heap[w.heap.size]? = some z ∧ (∀ k, cO c v O' k → k ≠ w.heap.size) ∧ (∀ k, isG k → k ≠ w.heap.size) := by
  have hs : (w.alloc z).drew.heap.size = w.heap.size + 1 := by show (w.alloc z).heap.size = _; simp
  refine ⟨(hg.1.block w.heap.size (by omega) (fun hO => by have := h.tab.lt _ hO; omega)).trans (heap_alloc_new w z), fun k hk e => ?_, fun k hk e => by have := h.laid.lt hk; omega⟩
  rcases hk with rfl | hk | hk
  · have := lt_of_block h.blk; omega
  · rcases hg.2 k hk with h1 | h1
    · have := h.tab.lt _ h1; omega
    · omega
  · have := h.ord.lt hk; omega

/-- A cache in memory that is s. -/
def CS (w : World) (c : Nat) (O : Nat → Prop) (s : CSt) : Prop := ∃ bt S v Ot, O = cO c v Ot ∧ CAt w c bt S v Ot s.bud (keys s.U) s.U (usedL s.U) s.ver s.gone
theorem CS.kept0 {w w' : World} {c : Nat} {O : Nat → Prop} {s : CSt} (h : CS w c O s) (hk : Kept (fun _ => False) w w') : CS w' c O s := by
  obtain ⟨bt, S, v, Ot, rfl, h1⟩ := h
  exact ⟨bt, S, v, Ot, rfl, h1.kept0 hk⟩
theorem CS.kept {w w' : World} {c : Nat} {O T : Nat → Prop} {s : CSt} (h : CS w c O s) (hk : Kept T w w') (hd : ∀ k, O k → ¬ T k) (hg : ∀ k, isG k → ¬ T k) : CS w' c O s := by
  obtain ⟨bt, S, v, Ot, rfl, h1⟩ := h
  exact ⟨bt, S, v, Ot, rfl, h1.kept hk hd hg⟩
theorem CS.lt {w : World} {c : Nat} {O : Nat → Prop} {s : CSt} (h : CS w c O s) {k : Nat} (hk : O k) : k < w.heap.size := by
  obtain ⟨bt, S, v, Ot, rfl, h1⟩ := h
  exact h1.lt hk
theorem CS.laid {w : World} {c : Nat} {O : Nat → Prop} {s : CSt} (h : CS w c O s) : Laid w := by
  obtain ⟨bt, S, v, Ot, rfl, h1⟩ := h
  exact h1.laid
theorem CS.above {w : World} {c : Nat} {O : Nat → Prop} {s : CSt} (h : CS w c O s) {k : Nat} (hk : O k) : ¬ isG k := by
  obtain ⟨bt, S, v, Ot, rfl, h1⟩ := h
  exact h1.above k hk
theorem CS.nodup {w : World} {c : Nat} {O : Nat → Prop} {s : CSt} (h : CS w c O s) : (keys s.U).Nodup := by
  obtain ⟨bt, S, v, Ot, rfl, h1⟩ := h
  exact h1.tab.1.nodup
/-- What a step leaves. -/
def Steps (w : World) (c : Nat) (O : Nat → Prop) (s : CSt) (w' : World) : Prop := ∃ O', CS w' c O' s ∧ Grew O w O' w'
theorem Steps.trans {w w1 w2 : World} {c : Nat} {O O1 : Nat → Prop} {s : CSt} (hg : Grew O w O1 w1) (h : Steps w1 c O1 s w2) : Steps w c O s w2 := by
  obtain ⟨O', h1, h2⟩ := h
  exact ⟨O', h1, hg.trans h2⟩

/-- A block that is no part of the cache stays as it is. -/
theorem Grew.other {O O' : Nat → Prop} {w w' : World} (h : Grew O w O' w') {b : Nat} {o : Obj} (hb : w.heap[b]? = some o) (hO : ¬ O b) : w'.heap[b]? = some o ∧ ¬ O' b :=
  ⟨(h.1.block b (lt_of_block hb) hO).trans hb, fun hh => (h.2 b hh).elim hO (fun e => by have := lt_of_block hb; omega)⟩
end Go.Proofs.YtekcjoogggoijaaGreatDoor
