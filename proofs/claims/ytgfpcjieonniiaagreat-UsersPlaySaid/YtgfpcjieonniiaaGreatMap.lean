/-
  A map in memory as a partial function from keys to the very values that lie there: look-ups, stores, deletes, its length. Over whatever program.
-/
import Derived.Test.YtgfpcjieonniiaaGreatLib
import Derived.Maps.OwnSet
import Derived.Maps.OwnOps
namespace Go.Proofs.YtgfpcjieonniiaaGreat
set_option linter.unusedVariables false
set_option linter.unusedSimpArgs false
set_option linter.unnecessarySimpa false
open Go.RowKit Go.Maps

/-- An element as the very value that lies there. -/
def asIs (v : Value) : Option (DataW Value × List MemPlace) := some (.held v, [])

/-- Block b is a map of cnt entries; at key kl it holds f kl. -/
def Mp (w : World) (P : Program) (k : TypeId) (b cnt : Nat) (f : Lit → Option Value) : Prop :=
  ∃ D : DataW Value, w.ownsMap P k asIs b cnt D ∧ size D = cnt ∧ Tidy D ∧ ∀ kl, match f kl with
    | some v => has D kl = true ∧ ∀ z, D.atKey kl z = .held v
    | none => has D kl = false

open Classical in
noncomputable def upd (f : Lit → Option Value) (kl : Lit) (o : Option Value) (x : Lit) : Option Value := if x = kl then o else f x

section
variable {w w' : World} {P : Program} {k e t : TypeId} {b cnt : Nat} {f : Lit → Option Value}

theorem Mp.exact {D : DataW Value} {n : Nat} (h : w.ownsMap P k asIs b n D) : w.ownsMap P k asIs b (size D) D := by
  obtain ⟨es, clock, hb, F, _, rfl⟩ := h
  exact ⟨es, clock, hb, F, by simp [size, length_sorted], rfl⟩
theorem Mp.lt (h : Mp w P k b cnt f) : b < w.heap.size := let ⟨_, h, _⟩ := h; h.lt
theorem Mp.made (w : World) (P : Program) (k : TypeId) : Mp (w.alloc (.map #[] 0)) P k w.heap.size 0 (fun _ => none) :=
  ⟨.map [], World.ownsMap_made _ _ _ _, rfl, tidy_empty, fun _ => rfl⟩
theorem Mp.same (h : Mp w P k b cnt f) (hb : w'.heap[b]? = w.heap[b]?) : Mp w' P k b cnt f := by
  obtain ⟨D, ⟨es, clock, h1, r⟩, h2⟩ := h
  exact ⟨D, ⟨es, clock, hb.trans h1, r⟩, h2⟩
theorem Mp.kept {S : Nat → Prop} (h : Mp w P k b cnt f) (hk : Kept S w w') (hs : ¬ S b) : Mp w' P k b cnt f := h.same (hk.block b h.lt hs)
theorem Mp.drewN (h : Mp w P k b cnt f) (q : Nat) : Mp (w.drewN q) P k b cnt f := h
theorem Mp.ext (h : Mp w P k b cnt f) {g : Lit → Option Value} (hg : ∀ x, f x = g x) : Mp w P k b cnt g := by
  have : f = g := funext hg
  exact this ▸ h

/-- 'm[k]' where the key is there. -/
theorem Mp.look (h : Mp w P k b cnt f) (K : Keyed P k) (ht : P.underlying t = some (.map k e)) {z : Value} (hz : (zeroValue e).run P w = .ok z w) {key : Value} {kl : Lit} (hkey : keyOf P k key = some kl) {v : Value} (hf : f kl = some v) :
    (Instr.lookup t (.map (some b)) key false).run P w = .ok v w := by
  obtain ⟨D, hown, _, _, hD⟩ := h
  obtain ⟨u, ps, hrun, hu⟩ := hown.lookup K ht hz (zd := .held z) (zp := []) rfl hkey
  have := hD kl
  rw [hf] at this
  rw [this.2] at hu
  simp [asIs] at hu
  rw [hrun, hu.1]
theorem Mp.look_none (h : Mp w P k b cnt f) (K : Keyed P k) (ht : P.underlying t = some (.map k e)) {z : Value} (hz : (zeroValue e).run P w = .ok z w) {key : Value} {kl : Lit} (hkey : keyOf P k key = some kl) (hf : f kl = none) :
    (Instr.lookup t (.map (some b)) key false).run P w = .ok z w := by
  obtain ⟨D, hown, _, _, hD⟩ := h
  obtain ⟨u, ps, hrun, hu⟩ := hown.lookup K ht hz (zd := .held z) (zp := []) rfl hkey
  have := hD kl
  rw [hf] at this
  rw [atKey_of_not_has this] at hu
  simp [asIs] at hu
  rw [hrun, hu.1]
/-- 'v, ok := m[k]'. -/
theorem Mp.look_ok (h : Mp w P k b cnt f) (K : Keyed P k) (ht : P.underlying t = some (.map k e)) {z : Value} (hz : (zeroValue e).run P w = .ok z w) {key : Value} {kl : Lit} (hkey : keyOf P k key = some kl) :
    (Instr.lookup t (.map (some b)) key true).run P w = .ok (.tuple #[(f kl).getD z, .bool (f kl).isSome]) w := by
  obtain ⟨D, hown, _, _, hD⟩ := h
  obtain ⟨u, ps, hrun, hu⟩ := hown.look_ok K ht hz (zd := .held z) (zp := []) rfl hkey
  have := hD kl
  rw [hrun]
  cases hf : f kl with
  | none =>
    rw [hf] at this
    rw [atKey_of_not_has this] at hu
    simp [asIs] at hu
    simp [hu.1, this]
  | some v =>
    rw [hf] at this
    rw [this.2] at hu
    simp [asIs] at hu
    simp [hu.1, this.1]
theorem Mp.len (h : Mp w P k b cnt f) (ht : P.underlying t = some (.map k e)) (ty : TypeId) : (Builtin.len_ #[t] ty #[.map (some b)]).run P w = .ok (.int .i64 cnt) w := by
  obtain ⟨D, hown, hc, _⟩ := h
  rw [hown.len ht ty, hc]
theorem kept_of_turned (h : w.mapTurned w' b) : Kept (fun i => i = b) w w' := by
  have hg := h.grown
  exact ⟨hg.os, hg.tape, hg.output, hg.size, fun i hi hs => hg.block i hi (fun e => hs (by injection e))⟩
/-- 'm[k] = v'. -/
theorem Mp.store (h : Mp w P k b cnt f) (K : Keyed P k) (ht : P.underlying t = some (.map k e)) (hn : cnt < maxLen) {key val : Value} {kl : Lit} (hkey : keyOf P k key = some kl) :
    ∃ w', (Instr.mapUpdate t (.map (some b)) key val).run P w = .ok () w' ∧ Mp w' P k b (if (f kl).isSome then cnt else cnt + 1) (upd f kl (some val)) ∧ Kept (fun i => i = b) w w' := by
  obtain ⟨D, hown, hc, htidy, hD⟩ := h
  obtain ⟨w', hrun, hown', hturn⟩ := hown.store K ht hn (val := val) (d := .held val) (ps := []) hkey rfl
  have hkk := K.key hkey
  have hcnt : size (D.put kl (.held val)) = if (f kl).isSome then cnt else cnt + 1 := by
    rw [size_put htidy]
    have := hD kl
    cases hf : f kl with
    | none => rw [hf] at this; simp [this, hc]
    | some v => rw [hf] at this; simp [this.1, hc]
  refine ⟨w', hrun, ⟨D.put kl (.held val), hcnt ▸ Mp.exact hown', hcnt, htidy.put hkk _, fun x => ?_⟩, kept_of_turned hturn⟩
  unfold upd
  by_cases hx : x = kl
  · subst hx
    rw [if_pos rfl]
    exact ⟨has_put_same htidy.isMap hkk _, fun z => atKey_put_same htidy.isMap hkk _ _⟩
  · rw [if_neg hx]
    have := hD x
    cases hf : f x with
    | none => rw [hf] at this; show has _ _ = _; rw [has_put_other hx]; exact this
    | some v => rw [hf] at this; exact ⟨by rw [has_put_other hx]; exact this.1, fun z => by rw [atKey_put_other hx]; exact this.2 z⟩
/-- 'delete(m, k)'. -/
theorem Mp.drop (h : Mp w P k b cnt f) (K : Keyed P k) (ht : P.underlying t = some (.map k e)) {key : Value} {kl : Lit} (hkey : keyOf P k key = some kl) (ty : TypeId) :
    ∃ w', (Builtin.delete_ #[t, k] ty #[.map (some b), key]).run P w = .ok (.tuple #[]) w' ∧ Mp w' P k b (if (f kl).isSome then cnt - 1 else cnt) (upd f kl none) ∧ Kept (fun i => i = b) w w' := by
  obtain ⟨D, hown, hc, htidy, hD⟩ := h
  obtain ⟨w', hrun, hown', hturn⟩ := hown.drop K ht hkey ty
  have hkk := K.key hkey
  have hcnt : size (D.del kl) = if (f kl).isSome then cnt - 1 else cnt := by
    have h1 := size_del (k := kl) htidy
    have := hD kl
    cases hf : f kl with
    | none => rw [hf] at this; simp [this] at h1 ⊢; omega
    | some v => rw [hf] at this; simp [this.1] at h1 ⊢; omega
  refine ⟨w', hrun, ⟨D.del kl, hcnt ▸ Mp.exact hown', hcnt, htidy.del _, fun x => ?_⟩, kept_of_turned hturn⟩
  unfold upd
  by_cases hx : x = kl
  · subst hx
    rw [if_pos rfl]
    exact has_del_same
  · rw [if_neg hx]
    have := hD x
    cases hf : f x with
    | none => rw [hf] at this; show has _ _ = _; rw [has_del_other hx]; exact this
    | some v => rw [hf] at this; exact ⟨by rw [has_del_other hx]; exact this.1, fun z => by rw [atKey_del_other hx]; exact this.2 z⟩
end

/-- The world behind 'm[key] = val'. -/
noncomputable def mpW (P : Program) (t : TypeId) (w : World) (b : Nat) (key val : Value) : World :=
  match (Instr.mapUpdate t (.map (some b)) key val).run P w with
  | .ok _ w' => w'
  | .halt _ w' => w'
theorem Mp.store_run {w : World} {P : Program} {k e t : TypeId} {b cnt : Nat} {f : Lit → Option Value} (h : Mp w P k b cnt f) (K : Keyed P k) (ht : P.underlying t = some (.map k e)) (hn : cnt < maxLen) {key val : Value} {kl : Lit} (hkey : keyOf P k key = some kl) :
    (Instr.mapUpdate t (.map (some b)) key val).run P w = .ok () (mpW P t w b key val) ∧ Mp (mpW P t w b key val) P k b (if (f kl).isSome then cnt else cnt + 1) (upd f kl (some val)) ∧ Kept (fun i => i = b) w (mpW P t w b key val) := by
  obtain ⟨w', hrun, h1, h2⟩ := h.store K ht hn (val := val) hkey
  have e : mpW P t w b key val = w' := by unfold mpW; rw [hrun]
  rw [e]
  exact ⟨hrun, h1, h2⟩

section
variable {P : Program} {ops : Array Oper} {rest : List Oper} {o : Oper} {a : Act} {Q : Exit → Act → World → Prop} {K' : Act → World → Prop} {k e t : TypeId} {b cnt : Nat} {f : Lit → Option Value}
/-- 'm[k] = v', for the walk. -/
theorem wpList_store_mp (w : World) (hg : o.guard = none) (m x v : Operand) (hop : o.op = Op.mapUpdate t m x v) (K : Keyed P k) (ht : P.underlying t = some (.map k e)) (hm : a.eval m = .map (some b)) (hmp : Mp w P k b cnt f) (hn : cnt < maxLen)
    (key val : Value) (kl : Lit) (hx : a.eval x = key) (hv : a.eval v = val) (hkey : keyOf P k key = some kl)
    (hK : ∀ w', Mp w' P k b (if (f kl).isSome then cnt else cnt + 1) (upd f kl (some val)) → Kept (fun i => i = b) w w' → wpList P ops Q rest (a.put o.dst undef) w') : wpList P ops Q (o :: rest) a w := by
  obtain ⟨w', hrun, h1, h2⟩ := hmp.store K ht hn (val := val) hkey
  refine wpList_plain hg fun K2 hK2 => ?_
  unfold Oper.wp
  simp [execOp, hop, hm, hx, hv, hrun, Result.andThen]
  exact hK2 _ _ (hK w' h1 h2)
/-- 'delete(m, k)', as one operation, wherever it stands. -/
theorem wp_drop_mp (w : World) (m x : Operand) (hop : o.op = Op.call { callee := Callee.builtin Builtin.delete, args := #[m, x], argTypes := #[t, k] }) (K : Keyed P k) (ht : P.underlying t = some (.map k e)) (hm : a.eval m = .map (some b)) (hmp : Mp w P k b cnt f)
    (key : Value) (kl : Lit) (hx : a.eval x = key) (hkey : keyOf P k key = some kl)
    (hK : ∀ w', Mp w' P k b (if (f kl).isSome then cnt - 1 else cnt) (upd f kl none) → Kept (fun i => i = b) w w' → K' (a.put o.dst (.tuple #[])) w') : o.wp P a w K' Q := by
  obtain ⟨w', hrun, h1, h2⟩ := hmp.drop K ht hkey o.type
  unfold Oper.wp
  simp [execOp, hop, resolve, invoke, builtin, hm, hx, hrun, Result.andThen]
  exact hK w' h1 h2
theorem wpList_drop_mp (w : World) (hg : o.guard = none) (m x : Operand) (hop : o.op = Op.call { callee := Callee.builtin Builtin.delete, args := #[m, x], argTypes := #[t, k] }) (K : Keyed P k) (ht : P.underlying t = some (.map k e)) (hm : a.eval m = .map (some b)) (hmp : Mp w P k b cnt f)
    (key : Value) (kl : Lit) (hx : a.eval x = key) (hkey : keyOf P k key = some kl)
    (hK : ∀ w', Mp w' P k b (if (f kl).isSome then cnt - 1 else cnt) (upd f kl none) → Kept (fun i => i = b) w w' → wpList P ops Q rest (a.put o.dst (.tuple #[])) w') : wpList P ops Q (o :: rest) a w :=
  wpList_plain hg fun _ hK2 => wp_drop_mp w m x hop K ht hm hmp key kl hx hkey (fun w' a1 a2 => hK2 _ _ (hK w' a1 a2))
theorem step_drop_mp (w : World) {E : Prop} (hg : o.guard = none) (m x : Operand) (hop : o.op = Op.call { callee := Callee.builtin Builtin.delete, args := #[m, x], argTypes := #[t, k] }) (K : Keyed P k) (ht : P.underlying t = some (.map k e)) (hm : a.eval m = .map (some b)) (hmp : Mp w P k b cnt f)
    (key : Value) (kl : Lit) (hx : a.eval x = key) (hkey : keyOf P k key = some kl)
    (hK : ∀ w', Mp w' P k b (if (f kl).isSome then cnt - 1 else cnt) (upd f kl none) → Kept (fun i => i = b) w w' → K' (a.put o.dst (.tuple #[])) w') : if Region.wanted o (yielded ops a.tmps) = true then Oper.wp P o a w K' Q else E := by
  have hw : Region.wanted o (yielded ops a.tmps) = true := by simp [Region.wanted, hg]
  rw [if_pos hw]
  exact wp_drop_mp w m x hop K ht hm hmp key kl hx hkey hK
end
end Go.Proofs.YtgfpcjieonniiaaGreat
