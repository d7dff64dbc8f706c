/-
  A cache in memory: what it owns, what its steps leave.
-/
import Derived.Test.YtehpafebpgndeaaGreatDoorCacheP
import Derived.Test.YtehpafebpgndeaaGreatDoorClone
import Derived.Lib.LaidTab
namespace Go.Proofs.YtehpafebpgndeaaGreatDoor
set_option linter.unusedVariables false
set_option linter.unusedSimpArgs false
set_option linter.unnecessarySimpa false
open Go.RowKit
set_option maxRecDepth 100000

theorem Grew.keptT {O O' T : Nat → Prop} {a b c : World} (h : Grew O a O' b) (k : Kept T b c) (hT : ∀ i, i < a.heap.size → ¬ T i) : Grew O a O' c :=
  ⟨h.1.trans k (fun i hi ht => absurd ht (hT i hi)), h.2⟩

/-- The library's variables as they were laid. -/
structure Laid (w : World) : Prop where
  syn : ∃ tp p, w.var? Tryz.prog "strconv.ErrSyntax" = some #[.iface tp p]
  rng : ∃ tp p, w.var? Tryz.prog "strconv.ErrRange" = some #[.iface tp p]
  tab : Lib.TabIs Tryz.prog w "internal/strconv.uint64pow10" .u64 Lib.pow10Tab
theorem gsyn : Tryz.prog.globalNamed "strconv.ErrSyntax" = some 0 := by kernel_rfl
theorem grng : Tryz.prog.globalNamed "strconv.ErrRange" = some 1 := by kernel_rfl
theorem gtab : Tryz.prog.globalNamed "internal/strconv.uint64pow10" = some 2 := by kernel_rfl
/-- The blocks of those variables. -/
def isG (k : Nat) : Prop := k = 0 ∨ k = 1 ∨ k = 2
theorem var_same {w w' : World} {name : String} {g : Nat} (hg : Tryz.prog.globalNamed name = some g) (h : w'.heap[g]? = w.heap[g]?) : w'.var? Tryz.prog name = w.var? Tryz.prog name := by
  unfold World.var?
  rw [hg]
  simp [h]
theorem var_lt {w : World} {name : String} {g : Nat} {c : Array Value} (hg : Tryz.prog.globalNamed name = some g) (h : w.var? Tryz.prog name = some c) : g < w.heap.size := by
  unfold World.var? at h
  rw [hg] at h
  simp only [Option.bind_some] at h
  cases hb : w.heap[g]? with
  | none => rw [hb] at h; cases h
  | some o => exact lt_of_block hb
theorem Laid.lt {w : World} (h : Laid w) {k : Nat} (hk : isG k) : k < w.heap.size := by
  rcases hk with rfl | rfl | rfl
  · obtain ⟨tp, p, h1⟩ := h.syn
    exact var_lt gsyn h1
  · obtain ⟨tp, p, h1⟩ := h.rng
    exact var_lt grng h1
  · exact var_lt gtab h.tab
theorem Laid.kept {w w' : World} {T : Nat → Prop} (h : Laid w) (hk : Kept T w w') (hT : ∀ k, isG k → ¬ T k) : Laid w' := by
  have e : ∀ k, isG k → w'.heap[k]? = w.heap[k]? := fun k hg => hk.block k (h.lt hg) (hT k hg)
  refine ⟨?_, ?_, ?_⟩
  · obtain ⟨tp, p, h1⟩ := h.syn
    exact ⟨tp, p, by rw [var_same gsyn (e _ (.inl rfl))]; exact h1⟩
  · obtain ⟨tp, p, h1⟩ := h.rng
    exact ⟨tp, p, by rw [var_same grng (e _ (.inr (.inl rfl)))]; exact h1⟩
  · unfold Lib.TabIs
    rw [var_same gtab (e _ (.inr (.inr rfl)))]
    exact h.tab

/-- The blocks of a cache. -/
def cO (c : Nat) (v : Value) (Ot : Nat → Prop) (k : Nat) : Prop := k = c ∨ Ot k ∨ v.ownBlock = some k
/-- A cache in memory, in its parts: the order of its keys, the table's items, what is used. -/
structure CAt (w : World) (c bt S : Nat) (v : Value) (Ot : Nat → Prop) (bud : Int) (K : List ByteArray) (L : List It) (n ver gone : Int) : Prop where
  blk : w.heap[c]? = some (.cells #[.int .i64 bud, .pointer (some ⟨bt, 0, none⟩), v, .int .i64 n, .int .i64 ver, .int .i64 gone] 104 (0, 0))
  tab : Tb w bt Ot 0 S L
  ord : Sl w 9 1 K.length v (strs K)
  ct : ¬ Ot c
  vt : ∀ k, v.ownBlock = some k → ¬ Ot k ∧ k ≠ c
  sS : S ≤ 200000
  laid : Laid w
  above : ∀ k, cO c v Ot k → ¬ isG k

section
variable {w w' : World} {c bt S : Nat} {v : Value} {Ot : Nat → Prop} {bud : Int} {K : List ByteArray} {L : List It} {n ver gone : Int}
theorem CAt.lt (h : CAt w c bt S v Ot bud K L n ver gone) {k : Nat} (hk : cO c v Ot k) : k < w.heap.size := by
  rcases hk with rfl | hk | hk
  · exact lt_of_block h.blk
  · exact h.tab.lt k hk
  · exact h.ord.lt hk
theorem CAt.kept {T : Nat → Prop} (h : CAt w c bt S v Ot bud K L n ver gone) (hk : Kept T w w') (hd : ∀ k, cO c v Ot k → ¬ T k) (hg : ∀ k, isG k → ¬ T k) : CAt w' c bt S v Ot bud K L n ver gone :=
  ⟨(hk.block c (lt_of_block h.blk) (hd c (.inl rfl))).trans h.blk, h.tab.kept hk (fun k hO => hd k (.inr (.inl hO))), h.ord.kept hk (fun k hv => hd k (.inr (.inr hv))), h.ct, h.vt, h.sS, h.laid.kept hk hg, h.above⟩
theorem CAt.kept0 (h : CAt w c bt S v Ot bud K L n ver gone) (hk : Kept (fun _ => False) w w') : CAt w' c bt S v Ot bud K L n ver gone := h.kept hk (fun _ _ h => h) (fun _ _ h => h)
/-- A cell of the cache's own struct. -/
theorem CAt.own (h : CAt w c bt S v Ot bud K L n ver gone) (o : Nat) (u : Value) : Kept (fun k => k = c) w (w.setCell ⟨c, o, none⟩ u) := kept_at u (Kept.refl _ w)
theorem CAt.rest (h : CAt w c bt S v Ot bud K L n ver gone) (o : Nat) (u : Value) : Tb (w.setCell ⟨c, o, none⟩ u) bt Ot 0 S L ∧ Sl (w.setCell ⟨c, o, none⟩ u) 9 1 K.length v (strs K) ∧ Laid (w.setCell ⟨c, o, none⟩ u) ∧ Grew (cO c v Ot) w (cO c v Ot) (w.setCell ⟨c, o, none⟩ u) :=
  ⟨h.tab.kept (h.own o u) (fun k hO e => h.ct (e ▸ hO)), h.ord.kept (h.own o u) (fun k hv e => (h.vt k hv).2 e), h.laid.kept (h.own o u) (fun k hg e => h.above k (.inl e) hg),
    ⟨(h.own o u).mono (fun k _ e => .inl e), fun k hk => .inl hk⟩⟩
theorem CAt.setUsed (h : CAt w c bt S v Ot bud K L n ver gone) (m : Int) : CAt (w.setCell ⟨c, 3, none⟩ (.int .i64 m)) c bt S v Ot bud K L m ver gone ∧ Grew (cO c v Ot) w (cO c v Ot) (w.setCell ⟨c, 3, none⟩ (.int .i64 m)) := by
  obtain ⟨h1, h2, h3, h4⟩ := h.rest 3 (.int .i64 m)
  exact ⟨⟨by rw [setCell_block h.blk]; rfl, h1, h2, h.ct, h.vt, h.sS, h3, h.above⟩, h4⟩
theorem CAt.setVer (h : CAt w c bt S v Ot bud K L n ver gone) (m : Int) : CAt (w.setCell ⟨c, 4, none⟩ (.int .i64 m)) c bt S v Ot bud K L n m gone ∧ Grew (cO c v Ot) w (cO c v Ot) (w.setCell ⟨c, 4, none⟩ (.int .i64 m)) := by
  obtain ⟨h1, h2, h3, h4⟩ := h.rest 4 (.int .i64 m)
  exact ⟨⟨by rw [setCell_block h.blk]; rfl, h1, h2, h.ct, h.vt, h.sS, h3, h.above⟩, h4⟩
theorem CAt.setGone (h : CAt w c bt S v Ot bud K L n ver gone) (m : Int) : CAt (w.setCell ⟨c, 5, none⟩ (.int .i64 m)) c bt S v Ot bud K L n ver m ∧ Grew (cO c v Ot) w (cO c v Ot) (w.setCell ⟨c, 5, none⟩ (.int .i64 m)) := by
  obtain ⟨h1, h2, h3, h4⟩ := h.rest 5 (.int .i64 m)
  exact ⟨⟨by rw [setCell_block h.blk]; rfl, h1, h2, h.ct, h.vt, h.sS, h3, h.above⟩, h4⟩
/-- Another order, in its own row or in a new one. -/
theorem CAt.setOrd (h : CAt w c bt S v Ot bud K L n ver gone) {w1 : World} {v' : Value} {K' : List ByteArray} (hk : Kept (fun k => v.ownBlock = some k) w w1) (hs : Sl w1 9 1 K'.length v' (strs K')) (ho : ∀ k, v'.ownBlock = some k → v.ownBlock = some k ∨ w.heap.size ≤ k) :
    CAt (w1.setCell ⟨c, 2, none⟩ v') c bt S v' Ot bud K' L n ver gone ∧ Grew (cO c v Ot) w (cO c v' Ot) (w1.setCell ⟨c, 2, none⟩ v') := by
  have hcl := lt_of_block h.blk
  have hvc : v.ownBlock ≠ some c := fun e => (h.vt c e).2 rfl
  have hb1 := (hk.block c hcl hvc).trans h.blk
  have ht1 := h.tab.kept hk (fun k hO e => (h.vt k e).1 hO)
  have hl1 := h.laid.kept hk (fun k hg e => h.above k (.inr (.inr e)) hg)
  have hk2 : Kept (fun k => k = c) w1 (w1.setCell ⟨c, 2, none⟩ v') := kept_at v' (Kept.refl _ w1)
  have hne : ∀ k, v'.ownBlock = some k → ¬ Ot k ∧ k ≠ c := by
    intro k e
    rcases ho k e with h1 | h1
    · exact h.vt k h1
    · exact ⟨fun hO => by have := h.tab.lt k hO; omega, by omega⟩
  refine ⟨⟨by rw [setCell_block hb1]; rfl, ht1.kept hk2 (fun k hO e => h.ct (e ▸ hO)), hs.kept hk2 (fun k hv e => (hne k hv).2 e), h.ct, hne, h.sS, hl1.kept hk2 (fun k hg e => h.above k (.inl e) hg), ?_⟩,
    (hk.mono (fun k _ e => .inr (.inr e))).trans (hk2.mono (fun k _ e => .inl e)) (fun _ _ h => h), ?_⟩
  · intro k hO hg
    rcases hO with e | hO | hO
    · exact h.above k (.inl e) hg
    · exact h.above k (.inr (.inl hO)) hg
    · rcases ho k hO with h1 | h1
      · exact h.above k (.inr (.inr h1)) hg
      · have := h.laid.lt hg; omega
  · intro k hO
    rcases hO with e | hO | hO
    · exact .inl (.inl e)
    · exact .inl (.inr (.inl hO))
    · exact (ho k hO).imp (fun e => .inr (.inr e)) id
/-- A step of the table. -/
theorem CAt.tabStep (h : CAt w c bt S v Ot bud K L n ver gone) {Ot' : Nat → Prop} {S' : Nat} {L' : List It} (ht : Tb w' bt Ot' 0 S' L') (hg : Grew Ot w Ot' w') (hS : S' ≤ 200000) :
    CAt w' c bt S' v Ot' bud K L' n ver gone ∧ Grew (cO c v Ot) w (cO c v Ot') w' := by
  have hcl := lt_of_block h.blk
  have hO' : ∀ k, k < w.heap.size → ¬ Ot k → ¬ Ot' k := fun k hk hn hO => (hg.2 k hO).elim hn (fun e => by omega)
  refine ⟨⟨(hg.1.block c hcl h.ct).trans h.blk, ht, h.ord.kept hg.1 (fun k hv => (h.vt k hv).1), hO' c hcl h.ct, fun k hv => ⟨hO' k (h.ord.lt hv) (h.vt k hv).1, (h.vt k hv).2⟩, hS, h.laid.kept hg.1 (fun k hgk hO => h.above k (.inr (.inl hO)) hgk), ?_⟩,
    hg.1.mono (fun k _ hO => .inr (.inl hO)), ?_⟩
  · intro k hO hgk
    rcases hO with e | hO | hO
    · exact h.above k (.inl e) hgk
    · rcases hg.2 k hO with h1 | h1
      · exact h.above k (.inr (.inl h1)) hgk
      · have := h.laid.lt hgk; omega
    · exact h.above k (.inr (.inr hO)) hgk
  · intro k hO
    rcases hO with e | hO | hO
    · exact .inl (.inl e)
    · exact (hg.2 k hO).imp (fun e => .inr (.inl e)) id
    · exact .inl (.inr (.inr hO))
end

/-- A block that was laid ahead of a step of the table. -/
theorem CAt.boxed {w : World} {c bt S : Nat} {v : Value} {Ot : Nat → Prop} {bud : Int} {K : List ByteArray} {L : List It} {n ver gone : Int} (h : CAt w c bt S v Ot bud K L n ver gone) (z : Obj) {w3 : World} {O' : Nat → Prop} (hg : Grew Ot (w.alloc z).drew O' w3) :
    w3.heap[w.heap.size]? = some z ∧ (∀ k, cO c v O' k → k ≠ w.heap.size) ∧ (∀ k, isG k → k ≠ w.heap.size) := by
  have hs : (w.alloc z).drew.heap.size = w.heap.size + 1 := by show (w.alloc z).heap.size = _; simp
  refine ⟨(hg.1.block w.heap.size (by omega) (fun hO => by have := h.tab.lt _ hO; omega)).trans (heap_alloc_new w z), fun k hk e => ?_, fun k hk e => by have := h.laid.lt hk; omega⟩
  rcases hk with rfl | hk | hk
  · have := lt_of_block h.blk; omega
  · rcases hg.2 k hk with h1 | h1
    · have := h.tab.lt _ h1; omega
    · omega
  · have := h.ord.lt hk; omega

/-- A cache in memory that is s. -/
def CS (w : World) (c : Nat) (O : Nat → Prop) (s : CSt) : Prop := ∃ bt S v Ot, O = cO c v Ot ∧ CAt w c bt S v Ot s.bud (keys s.U) s.U (usedL s.U) s.ver s.gone
theorem CS.kept0 {w w' : World} {c : Nat} {O : Nat → Prop} {s : CSt} (h : CS w c O s) (hk : Kept (fun _ => False) w w') : CS w' c O s := by
  obtain ⟨bt, S, v, Ot, rfl, h1⟩ := h
  exact ⟨bt, S, v, Ot, rfl, h1.kept0 hk⟩
theorem CS.kept {w w' : World} {c : Nat} {O T : Nat → Prop} {s : CSt} (h : CS w c O s) (hk : Kept T w w') (hd : ∀ k, O k → ¬ T k) (hg : ∀ k, isG k → ¬ T k) : CS w' c O s := by
  obtain ⟨bt, S, v, Ot, rfl, h1⟩ := h
  exact ⟨bt, S, v, Ot, rfl, h1.kept hk hd hg⟩
theorem CS.lt {w : World} {c : Nat} {O : Nat → Prop} {s : CSt} (h : CS w c O s) {k : Nat} (hk : O k) : k < w.heap.size := by
  obtain ⟨bt, S, v, Ot, rfl, h1⟩ := h
  exact h1.lt hk
theorem CS.laid {w : World} {c : Nat} {O : Nat → Prop} {s : CSt} (h : CS w c O s) : Laid w := by
  obtain ⟨bt, S, v, Ot, rfl, h1⟩ := h
  exact h1.laid
theorem CS.above {w : World} {c : Nat} {O : Nat → Prop} {s : CSt} (h : CS w c O s) {k : Nat} (hk : O k) : ¬ isG k := by
  obtain ⟨bt, S, v, Ot, rfl, h1⟩ := h
  exact h1.above k hk
theorem CS.nodup {w : World} {c : Nat} {O : Nat → Prop} {s : CSt} (h : CS w c O s) : (keys s.U).Nodup := by
  obtain ⟨bt, S, v, Ot, rfl, h1⟩ := h
  exact h1.tab.1.nodup
/-- What a step leaves. -/
def Steps (w : World) (c : Nat) (O : Nat → Prop) (s : CSt) (w' : World) : Prop := ∃ O', CS w' c O' s ∧ Grew O w O' w'
theorem Steps.trans {w w1 w2 : World} {c : Nat} {O O1 : Nat → Prop} {s : CSt} (hg : Grew O w O1 w1) (h : Steps w1 c O1 s w2) : Steps w c O s w2 := by
  obtain ⟨O', h1, h2⟩ := h
  exact ⟨O', h1, hg.trans h2⟩

/-- A block that is no part of the cache stays as it is. -/
theorem Grew.other {O O' : Nat → Prop} {w w' : World} (h : Grew O w O' w') {b : Nat} {o : Obj} (hb : w.heap[b]? = some o) (hO : ¬ O b) : w'.heap[b]? = some o ∧ ¬ O' b :=
  ⟨(h.1.block b (lt_of_block hb) hO).trans hb, fun hh => (h.2 b hh).elim hO (fun e => by have := lt_of_block hb; omega)⟩
end Go.Proofs.YtehpafebpgndeaaGreatDoor
