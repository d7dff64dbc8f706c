/-
  The law CachePlays: the cache, the reference and the Book in memory, sharing no block; their steps.
-/
import Derived.Test.YtekcjoogggoijaaGreatDoorCp33
import Derived.Test.YtekcjoogggoijaaGreatDoorCp34
import Derived.Test.YtekcjoogggoijaaGreatDoorCp43
set_option linter.unusedVariables false
set_option linter.unusedSimpArgs false
set_option linter.unnecessarySimpa false
namespace Go.Proofs.YtekcjoogggoijaaGreatDoor
open Go.RowKit
set_option maxRecDepth 100000

theorem writeC_nk (s : CSt) (x : It) : (writeC s x).1.keys = [] := by
  unfold writeC
  split <;> rfl
theorem setC_nk (s : CSt) (x : Cm) (now : Int) : (setC s x now).1.keys = [] := by
  unfold setC
  repeat' split
  all_goals first | rfl | exact writeC_nk _ _
theorem incrC_nk (s : CSt) (x : It) (n : Int) : (incrC s x n).1.keys = [] := by
  unfold incrC
  split
  · split
    · rfl
    · show (if _ then _ else _ : Rp).keys = []
      split <;> exact writeC_nk _ _
  · rfl
theorem itemC_nk (s : CSt) (x : Cm) (now : Int) : (itemC s x now).1.keys = [] := by
  unfold itemC
  split
  · rfl
  · split
    · rfl
    · split
      · rfl
      · split
        · show (if _ then _ else _ : Rp).keys = []
          split <;> rfl
        · split
          · rfl
          · split
            · rfl
            · split
              · exact incrC_nk _ _ _
              · unfold behindC
                split
                · rfl
                · exact writeC_nk _ _
/-- A reply has few keys. -/
theorem doC_few (s : CSt) (x : Cm) (now : Int) : (doC s x now).1.keys.length ≤ 40 := by
  unfold doC
  split
  · exact Nat.zero_le _
  · unfold didC
    split
    · rw [setC_nk]; exact Nat.zero_le _
    · split
      · unfold scanC
        split
        · exact Nat.zero_le _
        · show (scanL _ _ _ _).length ≤ 40
          unfold scanL
          rw [List.length_take]
          omega
      · split
        · exact Nat.zero_le _
        · split
          · exact Nat.zero_le _
          · rw [itemC_nk]; exact Nat.zero_le _

/-- The reference's blocks. -/
def refF (rc : Nat) (v : Value) (k : Nat) : Prop := k = rc ∨ v.ownBlock = some k
theorem BookHas2.sub {W : World} {b : Nat} {F R : Nat → Prop} {LsT : List (List ByteArray)} {LsI : List (List It)} (h : BookHas2 W b F R LsT LsI) (k : Nat) (hk : R k) : F k := by
  obtain ⟨FTexts, F1Texts, F2Texts, VTexts, CTexts, vsTexts, csTexts, lenTexts, conTexts, FItems, F1Items, F2Items, VItems, CItems, vsItems, csItems, lenItems, conItems, hTexts, hItems, hb, hd, hF, hR⟩ := h
  rcases (hR k).1 hk with e | e | e | e | e
  · exact (hF k).2 (.inl e)
  · exact (hF k).2 (.inr (.inl ((hTexts.iff k).2 (.inl (hTexts.kb.v.rowF k e)))))
  · exact (hF k).2 (.inr (.inl ((hTexts.iff k).2 (.inr (hTexts.kb.c.rowF k e)))))
  · exact (hF k).2 (.inr (.inr ((hItems.iff k).2 (.inl (hItems.kb.v.rowF k e)))))
  · exact (hF k).2 (.inr (.inr ((hItems.iff k).2 (.inr (hItems.kb.c.rowF k e)))))
structure PlayC (w wr : World) (c rc kb : Nat) (O F R : Nat → Prop) (v : Value) (s : CSt) (m : Int) (LsT : List (List ByteArray)) (LsI : List (List It)) : Prop where
  cs : CS wr c O s
  good : GoodC s m
  ref : RC wr rc v s
  book : BookHas2 wr kb F R LsT LsI
  tri : Tri w wr O (refF rc v) F
  gl : ∀ k, isG k → k < w.heap.size
  sub : ∀ k, R k → F k
/-- The cache has turned, the reference has not yet. -/
structure HalfC (w wr : World) (c rc kb : Nat) (O F R : Nat → Prop) (v : Value) (s s' : CSt) (m : Int) (LsT : List (List ByteArray)) (LsI : List (List It)) : Prop where
  cs : CS wr c O s'
  good : GoodC s m
  good' : GoodC s' (m + 1)
  ref : RC wr rc v s
  book : BookHas2 wr kb F R LsT LsI
  tri : Tri w wr O (refF rc v) F
  gl : ∀ k, isG k → k < w.heap.size
  sub : ∀ k, R k → F k
/-- A slice in hand, in no block of S. -/
def Hand (wr : World) (S : Nat → Prop) (E : TypeId) (size n : Nat) (u : Value) (xs : List Value) : Prop := Sl wr E size n u xs ∧ ∀ k, u.ownBlock = some k → ¬ S k
theorem Hand.step {wr w2 : World} {S S' T : Nat → Prop} {E : TypeId} {size n : Nat} {u : Value} {xs : List Value} (h : Hand wr S E size n u xs) (hk : Kept T wr w2) (hT : ∀ k, T k → S k) (hS : ∀ k, S' k → S k ∨ wr.heap.size ≤ k) : Hand w2 S' E size n u xs :=
  ⟨h.1.kept hk (fun k hu ht => h.2 k hu (hT k ht)), fun k hu hs => (hS k hs).elim (h.2 k hu) (fun e => by have := h.1.lt hu; omega)⟩

/-- The blocks that may turn (Q: those of the Book that are meant). -/
def S2 (O Q : Nat → Prop) (rc : Nat) (v : Value) (k : Nat) : Prop := O k ∨ refF rc v k ∨ Q k
theorem Hand.grew {wr w2 : World} {S S' : Nat → Prop} {E : TypeId} {size n : Nat} {u : Value} {xs : List Value} (h : Hand wr S E size n u xs) (g : Grew S wr S' w2) : Hand w2 S' E size n u xs := h.step g.1 (fun _ h => h) g.2
theorem Hand.sub {wr : World} {S S' : Nat → Prop} {E : TypeId} {size n : Nat} {u : Value} {xs : List Value} (h : Hand wr S E size n u xs) (hS : ∀ k, S' k → S k) : Hand wr S' E size n u xs := ⟨h.1, fun k hk hs => h.2 k hk (hS k hs)⟩
/-- A box that none of S is. -/
def Aside (wr : World) (S : Nat → Prop) (b : Nat) (o : Obj) : Prop := wr.heap[b]? = some o ∧ ¬ S b
theorem Aside.grew {wr w2 : World} {S S' : Nat → Prop} {b : Nat} {o : Obj} (h : Aside wr S b o) (g : Grew S wr S' w2) : Aside w2 S' b o := g.other h.1 h.2
theorem Aside.keep {wr w2 : World} {S : Nat → Prop} {b : Nat} {o : Obj} (h : Aside wr S b o) (g : Kept (fun _ => False) wr w2) : Aside w2 S b o := ⟨(g.block b (lt_of_block h.1) (fun e => e)).trans h.1, h.2⟩
theorem Aside.sub {wr : World} {S S' : Nat → Prop} {b : Nat} {o : Obj} (h : Aside wr S b o) (hS : ∀ k, S' k → S k) : Aside wr S' b o := ⟨h.1, fun e => h.2 (hS b e)⟩

section
variable {w wr w2 : World} {c rc kb : Nat} {O F R : Nat → Prop} {v : Value} {s s' : CSt} {m : Int} {LsT : List (List ByteArray)} {LsI : List (List It)}
theorem grew_O {O' Q : Nat → Prop} (h : Kept O wr w2) (h2 : ∀ k, O' k → O k ∨ wr.heap.size ≤ k) : Grew (S2 O Q rc v) wr (S2 O' Q rc v) w2 :=
  ⟨h.mono (fun k _ e => .inl e), fun k hk => by
    rcases hk with e | e | e
    · exact (h2 k e).imp .inl id
    · exact .inl (.inr (.inl e))
    · exact .inl (.inr (.inr e))⟩
theorem grew_v {v' : Value} {Q : Nat → Prop} (h : Kept (refF rc v) wr w2) (h2 : ∀ k, refF rc v' k → refF rc v k ∨ wr.heap.size ≤ k) : Grew (S2 O Q rc v) wr (S2 O Q rc v') w2 :=
  ⟨h.mono (fun k _ e => .inr (.inl e)), fun k hk => by
    rcases hk with e | e | e
    · exact .inl (.inl e)
    · exact (h2 k e).imp (fun e => .inr (.inl e)) id
    · exact .inl (.inr (.inr e))⟩
theorem grew_Q {R' : Nat → Prop} (h : Kept R wr w2) (h2 : ∀ k, R' k → R k ∨ wr.heap.size ≤ k) : Grew (S2 O R rc v) wr (S2 O R' rc v) w2 :=
  ⟨h.mono (fun k _ e => .inr (.inr e)), fun k hk => by
    rcases hk with e | e | e
    · exact .inl (.inl e)
    · exact .inl (.inr (.inl e))
    · exact (h2 k e).imp (fun e => .inr (.inr e)) id⟩
theorem refF_lt (h : RC wr rc v s) {k : Nat} (hk : refF rc v k) : k < wr.heap.size := by
  rcases hk with rfl | hk
  · exact lt_of_block h.blk
  · exact h.row.lt hk
theorem PlayC.keep (h : PlayC w wr c rc kb O F R v s m LsT LsI) (hk : Kept (fun _ => False) wr w2) : PlayC w w2 c rc kb O F R v s m LsT LsI :=
  ⟨h.cs.kept0 hk, h.good, h.ref.kept0 hk, h.book.kept hk (fun _ _ h => h), h.tri.keep hk, h.gl, h.sub⟩
theorem HalfC.keep (h : HalfC w wr c rc kb O F R v s s' m LsT LsI) (hk : Kept (fun _ => False) wr w2) : HalfC w w2 c rc kb O F R v s s' m LsT LsI :=
  ⟨h.cs.kept0 hk, h.good, h.good', h.ref.kept0 hk, h.book.kept hk (fun _ _ h => h), h.tri.keep hk, h.gl, h.sub⟩
/-- The cache's Do. -/
theorem PlayC.does (h : PlayC w wr c rc kb O F R v s m LsT LsI) (hm : m ≤ 1000000000) (x : Cm) (now : Int) (hk : x.key.size ≤ 1000000000) (hv : x.val.size ≤ 1000000000) :
    Calls Tryz.prog 8 #[.pointer (some ⟨c, 0, none⟩), .agg #[.int .i64 x.op, .string x.key, .string x.val, .int .i64 x.num, .int .i64 x.ver], .int .i64 now] wr fun e w' => ∃ kv O', e = .returned (rpV (doC s x now).1 kv) ∧ HalfC w w' c rc kb O' F R v s (doC s x now).2 m LsT LsI ∧
      Hand w' (S2 O' F rc v) 9 1 (doC s x now).1.keys.length kv (strs (doC s x now).1.keys) ∧ (∀ Q, Grew (S2 O Q rc v) wr (S2 O' Q rc v) w') ∧ ∀ k, kv.ownBlock = some k → wr.heap.size ≤ k := by
  refine (cdo_all c O s x now wr h.cs (h.good.fit hm) hk hv).mono ?_
  rintro e w' ⟨kv, O', rfl, h1, h2, h3, h4⟩
  have ht := h.tri.turn1 h2.1 h2.2 (fun k hk => h1.lt hk)
  refine ⟨kv, O', rfl, ⟨h1, h.good, h.good.does x now, h.ref.kept h2.1 (fun e => h.tri.ab rc e (.inl rfl)) (fun k hk e => h.tri.ab k e (.inr hk)), h.book.kept h2.1 (fun k hk e => h.tri.ac k e hk), ht, h.gl, h.sub⟩, ⟨h3, fun k hk hs => ?_⟩, fun Q => grew_O h2.1 h2.2, fun k hk => (h4 k hk).1⟩
  obtain ⟨g1, g2⟩ := h4 k hk
  rcases hs with e | e | e
  · exact g2 e
  · have := refF_lt h.ref e; omega
  · have := h.book.lt k e; omega
/-- The reference's Do, behind it. -/
theorem HalfC.does (h : HalfC w wr c rc kb O F R v s s' m LsT LsI) (hm : m ≤ 1000000000) (x : Cm) (now : Int) (hk : x.key.size ≤ 1000000000) (hv : x.val.size ≤ 1000000000) (hs : s' = (doC s x now).2) (hnd : (keys s.U).Nodup) :
    Calls Tryz.prog 9 #[.pointer (some ⟨rc, 0, none⟩), .agg #[.int .i64 x.op, .string x.key, .string x.val, .int .i64 x.num, .int .i64 x.ver], .int .i64 now] wr fun e w' => ∃ kv v', e = .returned (rpV (doC s x now).1 kv) ∧ PlayC w w' c rc kb O F R v' s' (m + 1) LsT LsI ∧ (∀ Q, Grew (S2 O Q rc v) wr (S2 O Q rc v') w') ∧
      Hand w' (S2 O F rc v') 9 1 (doC s x now).1.keys.length kv (strs (doC s x now).1.keys) := by
  refine (refDo_all s x now wr h.ref (h.good.fit hm) hnd hk hv).mono ?_
  rintro e w' ⟨kv, v', rfl, h1, h2, h3, h4, h5⟩
  have hR : ∀ k, refF rc v' k → refF rc v k ∨ wr.heap.size ≤ k := fun k hk => by
    rcases hk with rfl | hk
    · exact .inl (.inl rfl)
    · exact (h3 k hk).imp .inr id
  have h2' : Kept (refF rc v) wr w' := h2.mono (fun k _ e => .inl e)
  have ht := h.tri.turn2 h2' hR (fun k hk => refF_lt h1 hk)
  refine ⟨kv, v', rfl, ⟨h.cs.kept h2' (fun k hk e => h.tri.ab k hk e) (fun k hg e => ?_), h.good', hs ▸ h1, h.book.kept h2' (fun k hk e => h.tri.bc k e hk), ht, h.gl, h.sub⟩, fun Q => grew_v h2' hR, h4, fun k hk hS => ?_⟩
  · have := h.gl k hg
    have := h.tri.new k (.inr (.inl e))
    omega
  · obtain ⟨g1, g2⟩ := h5 k hk
    rcases hS with e | (e | e) | e
    · have := h.cs.lt e; omega
    · have := lt_of_block h.ref.blk; omega
    · exact g2 e
    · have := h.book.lt k e; omega
/-- The cache's items, in hand. -/
theorem PlayC.items (h : PlayC w wr c rc kb O F R v s m LsT LsI) :
    Calls Tryz.prog 11 #[.pointer (some ⟨c, 0, none⟩)] wr fun e w' => ∃ u O', e = .returned u ∧ PlayC w w' c rc kb O' F R v s m LsT LsI ∧ (∀ Q, Grew (S2 O Q rc v) wr (S2 O' Q rc v) w') ∧
      Hand w' (S2 O' F rc v) 44 4 s.U.length u (flat (itemsL s.U)) ∧ ∀ k, u.ownBlock = some k → wr.heap.size ≤ k := by
  have hl : s.U.length ≤ 62500 := by have := usedL_ge s.U; have := h.good.used; have := h.good.b1; omega
  refine (citems c O s wr h.cs (by omega) (fun x hx => by have := h.good.keyl x hx; omega)).mono ?_
  rintro e w' ⟨u, O', rfl, h1, h2, h3, h4⟩
  have ht := h.tri.turn1 h2.1 h2.2 (fun k hk => h1.lt hk)
  refine ⟨u, O', rfl, ⟨h1, h.good, h.ref.kept h2.1 (fun e => h.tri.ab rc e (.inl rfl)) (fun k hk e => h.tri.ab k e (.inr hk)), h.book.kept h2.1 (fun k hk e => h.tri.ac k e hk), ht, h.gl, h.sub⟩, fun Q => grew_O h2.1 h2.2, ⟨h3, fun k hk hs => ?_⟩, fun k hk => (h4 k hk).1⟩
  obtain ⟨g1, g2⟩ := h4 k hk
  rcases hs with e | e | e
  · exact g2 e
  · have := refF_lt h.ref e; omega
  · have := h.book.lt k e; omega
/-- The order of the cache's keys, in hand. -/
theorem PlayC.order (h : PlayC w wr c rc kb O F R v s m LsT LsI) :
    Calls Tryz.prog 12 #[.pointer (some ⟨c, 0, none⟩)] wr fun e w' => ∃ u, e = .returned u ∧ PlayC w w' c rc kb O F R v s m LsT LsI ∧ Kept (fun _ => False) wr w' ∧
      Hand w' (S2 O F rc v) 9 1 (keys s.U).length u (strs (keys s.U)) ∧ ∀ k, u.ownBlock = some k → wr.heap.size ≤ k := by
  have hl : s.U.length ≤ 62500 := by have := usedL_ge s.U; have := h.good.used; have := h.good.b1; omega
  refine (corder c O s wr h.cs (by omega)).mono ?_
  rintro e w' ⟨u, rfl, h1, h2, h3⟩
  refine ⟨u, rfl, h.keep h2, h2, ⟨h1, fun k hk hs => ?_⟩, h3⟩
  have g := h3 k hk
  rcases hs with e | e | e
  · have := h.cs.lt e; omega
  · have := refF_lt h.ref e; omega
  · have := h.book.lt k e; omega
/-- A list of texts kept in the Book. -/
theorem PlayC.keepT (h : PlayC w wr c rc kb O F R v s m LsT LsI) {u : Value} {L : List ByteArray} (hu : Hand wr (S2 O F rc v) 9 1 L.length u (strs L)) (hw : ∀ k, u.ownBlock = some k → w.heap.size ≤ k) (hn : LsT.length < 250) (hl : L.length ≤ 90000) :
    Calls Tryz.prog 10 #[.pointer (some ⟨kb, 0, none⟩), u] wr fun e w' => e = .returned (.tuple #[]) ∧ ∃ F' R', PlayC w w' c rc kb O F' R' v s m (LsT ++ [L]) LsI ∧ Grew (S2 O R rc v) wr (S2 O R' rc v) w' ∧ ∀ E size n (u' : Value) (xs : List Value), Hand wr (S2 O F rc v) E size n u' xs → (∀ k, u'.ownBlock = some k → u.ownBlock ≠ some k) → Hand w' (S2 O F' rc v) E size n u' xs := by
  refine (h.book.keepTexts u L hu.1 (fun k hk e => hu.2 k hk (.inr (.inr e))) hn hl).mono ?_
  rintro e w' ⟨rfl, F', R', h1, h2, h3, h4⟩
  have h2F : Kept F wr w' := h2.mono (fun k _ e => h.sub k e)
  refine ⟨rfl, F', R', ⟨h.cs.kept h2F (fun k hk e => h.tri.ac k hk e) (fun k hg e => ?_), h.good, h.ref.kept h2F (fun e => h.tri.bc rc (.inl rfl) e) (fun k hk e => h.tri.bc k (.inr hk) e), h1, ?_, h.gl, h1.sub⟩, grew_Q h2 h4, fun E size n u' xs hu' hne => ⟨hu'.1.kept h2F (fun k hk e => hu'.2 k hk (.inr (.inr e))), fun k hk hs => ?_⟩⟩
  · have := h.gl k hg
    have := h.tri.new k (.inr (.inr e))
    omega
  · have hs := h.tri.kept.size
    refine ⟨h.tri.kept.trans h2F (fun k hk e => by have := h.tri.new k (.inr (.inr e)); omega), fun k hk => ?_, fun k hk => ?_, h.tri.ab, fun k ha hc => ?_, fun k hb hc => ?_⟩
    · rcases hk with e | e | e
      · exact h.tri.new k (.inl e)
      · exact h.tri.new k (.inr (.inl e))
      · rcases h3 k e with e | e | e
        · exact h.tri.new k (.inr (.inr e))
        · exact hw k e
        · omega
    · rcases hk with e | e | e
      · exact Nat.lt_of_lt_of_le (h.tri.lt k (.inl e)) h2.size
      · exact Nat.lt_of_lt_of_le (h.tri.lt k (.inr (.inl e))) h2.size
      · exact h1.lt k e
    · rcases h3 k hc with e | e | e
      · exact h.tri.ac k ha e
      · exact hu.2 k e (.inl ha)
      · have := h.tri.lt k (.inl ha); omega
    · rcases h3 k hc with e | e | e
      · exact h.tri.bc k hb e
      · exact hu.2 k e (.inr (.inl hb))
      · have := h.tri.lt k (.inr (.inl hb)); omega
  · rcases hs with e | e | e
    · exact hu'.2 k hk (.inl e)
    · exact hu'.2 k hk (.inr (.inl e))
    · rcases h3 k e with e | e | e
      · exact hu'.2 k hk (.inr (.inr e))
      · exact hne k hk e
      · have := hu'.1.lt hk; omega
/-- A list of items kept in the Book. -/
theorem PlayC.keepI (h : PlayC w wr c rc kb O F R v s m LsT LsI) {u : Value} {L : List It} (hu : Hand wr (S2 O F rc v) 44 4 L.length u (flat L)) (hw : ∀ k, u.ownBlock = some k → w.heap.size ≤ k) (hn : LsI.length < 250) (hl : L.length ≤ 90000) :
    Calls Tryz.prog 13 #[.pointer (some ⟨kb, 0, none⟩), u] wr fun e w' => e = .returned (.tuple #[]) ∧ ∃ F' R', PlayC w w' c rc kb O F' R' v s m LsT (LsI ++ [L]) ∧ Grew (S2 O R rc v) wr (S2 O R' rc v) w' ∧ ∀ E size n (u' : Value) (xs : List Value), Hand wr (S2 O F rc v) E size n u' xs → (∀ k, u'.ownBlock = some k → u.ownBlock ≠ some k) → Hand w' (S2 O F' rc v) E size n u' xs := by
  refine (h.book.keepItems u L hu.1 (fun k hk e => hu.2 k hk (.inr (.inr e))) hn hl).mono ?_
  rintro e w' ⟨rfl, F', R', h1, h2, h3, h4⟩
  have h2F : Kept F wr w' := h2.mono (fun k _ e => h.sub k e)
  refine ⟨rfl, F', R', ⟨h.cs.kept h2F (fun k hk e => h.tri.ac k hk e) (fun k hg e => ?_), h.good, h.ref.kept h2F (fun e => h.tri.bc rc (.inl rfl) e) (fun k hk e => h.tri.bc k (.inr hk) e), h1, ?_, h.gl, h1.sub⟩, grew_Q h2 h4, fun E size n u' xs hu' hne => ⟨hu'.1.kept h2F (fun k hk e => hu'.2 k hk (.inr (.inr e))), fun k hk hs => ?_⟩⟩
  · have := h.gl k hg
    have := h.tri.new k (.inr (.inr e))
    omega
  · have hs := h.tri.kept.size
    refine ⟨h.tri.kept.trans h2F (fun k hk e => by have := h.tri.new k (.inr (.inr e)); omega), fun k hk => ?_, fun k hk => ?_, h.tri.ab, fun k ha hc => ?_, fun k hb hc => ?_⟩
    · rcases hk with e | e | e
      · exact h.tri.new k (.inl e)
      · exact h.tri.new k (.inr (.inl e))
      · rcases h3 k e with e | e | e
        · exact h.tri.new k (.inr (.inr e))
        · exact hw k e
        · omega
    · rcases hk with e | e | e
      · exact Nat.lt_of_lt_of_le (h.tri.lt k (.inl e)) h2.size
      · exact Nat.lt_of_lt_of_le (h.tri.lt k (.inr (.inl e))) h2.size
      · exact h1.lt k e
    · rcases h3 k hc with e | e | e
      · exact h.tri.ac k ha e
      · exact hu.2 k e (.inl ha)
      · have := h.tri.lt k (.inl ha); omega
    · rcases h3 k hc with e | e | e
      · exact h.tri.bc k hb e
      · exact hu.2 k e (.inr (.inl hb))
      · have := h.tri.lt k (.inr (.inl hb)); omega
  · rcases hs with e | e | e
    · exact hu'.2 k hk (.inl e)
    · exact hu'.2 k hk (.inr (.inl e))
    · rcases h3 k e with e | e | e
      · exact hu'.2 k hk (.inr (.inr e))
      · exact hne k hk e
      · have := hu'.1.lt hk; omega
/-- A box of the round's own. -/
theorem PlayC.box (h : PlayC w wr c rc kb O F R v s m LsT LsI) (o : Obj) : Aside (wr.alloc o) (S2 O F rc v) wr.heap.size o ∧ PlayC w (wr.alloc o) c rc kb O F R v s m LsT LsI := by
  refine ⟨⟨heap_alloc_new _ _, fun hs => ?_⟩, h.keep ((Kept.refl _ _).alloc o)⟩
  rcases hs with e | e | e
  · have := h.cs.lt e; omega
  · have := refF_lt h.ref e; omega
  · have := h.book.lt _ e; omega
theorem HalfC.box (h : HalfC w wr c rc kb O F R v s s' m LsT LsI) (o : Obj) : Aside (wr.alloc o) (S2 O F rc v) wr.heap.size o ∧ HalfC w (wr.alloc o) c rc kb O F R v s s' m LsT LsI := by
  refine ⟨⟨heap_alloc_new _ _, fun hs => ?_⟩, h.keep ((Kept.refl _ _).alloc o)⟩
  rcases hs with e | e | e
  · have := h.cs.lt e; omega
  · have := refF_lt h.ref e; omega
  · have := h.book.lt _ e; omega
theorem PlayC.fewer (h : PlayC w wr c rc kb O F R v s m LsT LsI) (k : Nat) (hk : S2 O R rc v k) : S2 O F rc v k := by
  rcases hk with e | e | e
  · exact .inl e
  · exact .inr (.inl e)
  · exact .inr (.inr (h.sub k e))
/-- Boxes are written over. -/
theorem PlayC.overT {T : Nat → Prop} (h : PlayC w wr c rc kb O F R v s m LsT LsI) (hT : ∀ k, T k → ¬ S2 O F rc v k) (hb : ∀ k, T k → w.heap.size ≤ k) (hk : Kept T wr w2) : PlayC w w2 c rc kb O F R v s m LsT LsI :=
  ⟨h.cs.kept hk (fun k hO e => hT k e (.inl hO)) (fun k hg e => by have := h.gl k hg; have := hb k e; omega), h.good, h.ref.kept hk (fun e => hT rc e (.inr (.inl (.inl rfl)))) (fun k hk' e => hT k e (.inr (.inl (.inr hk')))),
    h.book.kept hk (fun k hF e => hT k e (.inr (.inr hF))), ⟨h.tri.kept.trans hk (fun k hk' e => by have := hb k e; omega), h.tri.new, fun k hk' => Nat.lt_of_lt_of_le (h.tri.lt k hk') hk.size, h.tri.ab, h.tri.ac, h.tri.bc⟩, h.gl, h.sub⟩
theorem PlayC.over (h : PlayC w wr c rc kb O F R v s m LsT LsI) {b : Nat} {o : Obj} (ha : Aside wr (S2 O F rc v) b o) (hb : w.heap.size ≤ b) (hk : Kept (fun k => k = b) wr w2) : PlayC w w2 c rc kb O F R v s m LsT LsI :=
  h.overT (T := fun k => k = b) (fun k e => by rw [show k = b from e]; exact ha.2) (fun k e => by rw [show k = b from e]; exact hb) hk
/-- Where the reference has a key. -/
theorem PlayC.atKey (h : PlayC w wr c rc kb O F R v s m LsT LsI) (key : ByteArray) :
    ∃ kI : Int, (∀ W, Kept (fun _ => False) wr W → Calls Tryz.prog 7 #[.pointer (some ⟨rc, 0, none⟩), .string key] W fun e w' => e = .returned (.int .i64 kI) ∧ W = w') ∧ (kI = -1 ∨ ∃ (j : Nat) (_ : j < s.U.length), kI = (j : Int)) := by
  have hl : s.U.length ≤ 62500 := by have := usedL_ge s.U; have := h.good.used; have := h.good.b1; omega
  cases hl' : look s.U key with
  | none => exact ⟨-1, fun W hk => refC_at_none (h.ref.kept0 hk) (by omega) (fun j hj => look_not hl' j hj), .inl rfl⟩
  | some y =>
    obtain ⟨j, hj, he, hy, hno⟩ := look_at hl'
    exact ⟨j, fun W hk => refC_at_some (h.ref.kept0 hk) (by omega) hj (by rw [he]; exact hy) hno, .inr ⟨j, hj, rfl⟩⟩
/-- What the cache's Do leaves, whatever boxes were laid ahead of it. -/
def MidC (w wr W w' : World) (c rc kb : Nat) (O F R : Nat → Prop) (v : Value) (s s' : CSt) (m : Int) (LsT : List (List ByteArray)) (LsI : List (List It)) (kv : Value) (r : Rp) : Prop :=
  W.heap.size ≤ w'.heap.size ∧ ∃ O', HalfC w w' c rc kb O' F R v s s' m LsT LsI ∧ Hand w' (S2 O' F rc v) 9 1 r.keys.length kv (strs r.keys) ∧ (∀ k, kv.ownBlock = some k → w.heap.size ≤ k) ∧
    (∀ b o, wr.heap.size ≤ b → W.heap[b]? = some o → Aside w' (S2 O' F rc v) b o) ∧ ∀ b o, Aside wr (S2 O F rc v) b o → Aside w' (S2 O' F rc v) b o
theorem PlayC.lt (h : PlayC w wr c rc kb O F R v s m LsT LsI) (k : Nat) (hk : S2 O F rc v k) : k < wr.heap.size := by
  rcases hk with e | e | e
  · exact h.cs.lt e
  · exact refF_lt h.ref e
  · exact h.book.lt k e
theorem HalfC.lt (h : HalfC w wr c rc kb O F R v s s' m LsT LsI) (k : Nat) (hk : S2 O F rc v k) : k < wr.heap.size := by
  rcases hk with e | e | e
  · exact h.cs.lt e
  · exact refF_lt h.ref e
  · exact h.book.lt k e
theorem PlayC.doesB (h : PlayC w wr c rc kb O F R v s m LsT LsI) (hm : m ≤ 1000000000) (x : Cm) (now : Int) (hk : x.key.size ≤ 1000000000) (hv : x.val.size ≤ 1000000000) (W : World) (hW : Kept (fun _ => False) wr W) :
    Calls Tryz.prog 8 #[.pointer (some ⟨c, 0, none⟩), .agg #[.int .i64 x.op, .string x.key, .string x.val, .int .i64 x.num, .int .i64 x.ver], .int .i64 now] W fun e w' => ∃ kv, e = .returned (rpV (doC s x now).1 kv) ∧ MidC w wr W w' c rc kb O F R v s (doC s x now).2 m LsT LsI kv (doC s x now).1 := by
  refine ((h.keep hW).does hm x now hk hv).mono ?_
  rintro e w' ⟨kv, O', rfl, h1, h2, h3, h4⟩
  have z1 := h.tri.kept.size
  have z2 := hW.size
  exact ⟨kv, rfl, (h3 F).1.size, O', h1, h2, fun k hk => by have := h4 k hk; omega, fun b o hb ho => Aside.grew ⟨ho, fun e => by have := h.lt b e; omega⟩ (h3 F), fun b o ha => (ha.keep hW).grew (h3 F)⟩
/-- What the reference's Do leaves, behind it. -/
def EndC (w w1 W w' : World) (c rc kb : Nat) (O F R : Nat → Prop) (v : Value) (s' : CSt) (m : Int) (LsT : List (List ByteArray)) (LsI : List (List It)) (kv : Value) (r : Rp) : Prop :=
  W.heap.size ≤ w'.heap.size ∧ ∃ v', PlayC w w' c rc kb O F R v' s' (m + 1) LsT LsI ∧ Hand w' (S2 O F rc v') 9 1 r.keys.length kv (strs r.keys) ∧ (∀ E size n u xs, Hand w1 (S2 O F rc v) E size n u xs → Hand w' (S2 O F rc v') E size n u xs) ∧
    (∀ b o, w1.heap.size ≤ b → W.heap[b]? = some o → Aside w' (S2 O F rc v') b o) ∧ ∀ b o, Aside w1 (S2 O F rc v) b o → Aside w' (S2 O F rc v') b o
theorem HalfC.doesB (h : HalfC w wr c rc kb O F R v s s' m LsT LsI) (hm : m ≤ 1000000000) (x : Cm) (now : Int) (hk : x.key.size ≤ 1000000000) (hv : x.val.size ≤ 1000000000) (hs : s' = (doC s x now).2) (W : World) (hW : Kept (fun _ => False) wr W) :
    Calls Tryz.prog 9 #[.pointer (some ⟨rc, 0, none⟩), .agg #[.int .i64 x.op, .string x.key, .string x.val, .int .i64 x.num, .int .i64 x.ver], .int .i64 now] W fun e w' => ∃ kv, e = .returned (rpV (doC s x now).1 kv) ∧ EndC w wr W w' c rc kb O F R v s' m LsT LsI kv (doC s x now).1 := by
  refine ((h.keep hW).does hm x now hk hv hs h.good.nd).mono ?_
  rintro e w' ⟨kv, v', rfl, h1, h2, h3⟩
  have z1 := h.tri.kept.size
  have z2 := hW.size
  exact ⟨kv, rfl, (h2 F).1.size, v', h1, h3, fun E size n u xs hu => Hand.grew ⟨hu.1.kept hW (fun _ _ e => e), hu.2⟩ (h2 F), fun b o hb ho => Aside.grew ⟨ho, fun e => by have := h.lt b e; omega⟩ (h2 F), fun b o ha => (ha.keep hW).grew (h2 F)⟩
/-- The two replies lie in boxes. -/
def BothC (w wx : World) (c rc kb : Nat) (F R : Nat → Prop) (s : CSt) (m : Int) (LsT : List (List ByteArray)) (LsI : List (List It)) (r : Rp) (ba bb : Nat) : Prop :=
  ∃ kva kvb O v, PlayC w wx c rc kb O F R v s m LsT LsI ∧ Aside wx (S2 O F rc v) ba (rpO r kva) ∧ Aside wx (S2 O F rc v) bb (rpO r kvb) ∧ Hand wx (S2 O F rc v) 9 1 r.keys.length kva (strs r.keys) ∧ Hand wx (S2 O F rc v) 9 1 r.keys.length kvb (strs r.keys) ∧ ∀ k, kva.ownBlock = some k → w.heap.size ≤ k
theorem sl_ne {w : World} {E T : TypeId} {size n : Nat} {u : Value} {xs : List Value} {k : Nat} {cs : Array Value} (h : Sl w E size n u xs) (hk : u.ownBlock = some k) (hb : w.heap[k]? = some (.cells cs T (0, 0))) : T = E := by
  rcases h.2 with ⟨rfl, _⟩ | ⟨g, off, cap, cur, rfl, hg, _⟩
  · cases hk
  · obtain rfl : g = k := by injection hk
    rw [hg] at hb
    injection hb with hb
    injection hb with _ hb
    exact hb.symm
theorem both_end {W3 : World} {ba bb : Nat} {r : Rp} {kva kvb : Value} (h : PlayC w wr c rc kb O F R v s m LsT LsI) (h1 : Hand wr (S2 O F rc v) 9 1 r.keys.length kva (strs r.keys)) (h2 : Hand wr (S2 O F rc v) 9 1 r.keys.length kvb (strs r.keys))
    (hf : ∀ k, kva.ownBlock = some k → w.heap.size ≤ k) (ha : w.heap.size ≤ ba ∧ (wr.heap.size ≤ ba ∨ Aside wr (S2 O F rc v) ba zRp)) (hb : w.heap.size ≤ bb ∧ (wr.heap.size ≤ bb ∨ Aside wr (S2 O F rc v) bb zRp))
    (hk : Kept (fun k => k = ba ∨ k = bb) wr W3) (ea : W3.heap[ba]? = some (rpO r kva)) (eb : W3.heap[bb]? = some (rpO r kvb)) : BothC w W3 c rc kb F R s m LsT LsI r ba bb := by
  have g : ∀ k, k = ba ∨ k = bb → w.heap.size ≤ k ∧ (wr.heap.size ≤ k ∨ Aside wr (S2 O F rc v) k zRp) := fun k e => by rcases e with rfl | rfl <;> assumption
  have nS : ∀ k, k = ba ∨ k = bb → ¬ S2 O F rc v k := fun k e hs => by
    rcases (g k e).2 with e1 | e1
    · have := h.lt k hs; omega
    · exact e1.2 hs
  have nH : ∀ {n : Nat} {u : Value} {xs : List Value}, Hand wr (S2 O F rc v) 9 1 n u xs → ∀ k, u.ownBlock = some k → ¬ (k = ba ∨ k = bb) := fun hu k hk' e => by
    rcases (g k e).2 with e1 | e1
    · have := hu.1.lt hk'; omega
    · exact absurd (sl_ne hu.1 hk' e1.1) (by decide)
  exact ⟨kva, kvb, O, v, h.overT nS (fun k e => (g k e).1) hk, ⟨ea, nS ba (.inl rfl)⟩, ⟨eb, nS bb (.inr rfl)⟩, ⟨h1.1.kept hk (nH h1), h1.2⟩, ⟨h2.1.kept hk (nH h2), h2.2⟩, hf⟩
theorem bx1 (W : World) (o : Obj) : (W.alloc o).heap[W.heap.size]? = some o := heap_alloc_new W o
theorem bx1d (W : World) (o : Obj) : (W.alloc o).drew.heap[W.heap.size]? = some o := heap_alloc_new W o
theorem bx2a (W : World) (o o' : Obj) : ((W.alloc o).alloc o').heap[W.heap.size]? = some o := (Below.heap_alloc _ _ _ (by simp)).trans (heap_alloc_new W o)
theorem bx2ad (W : World) (o o' : Obj) : ((W.alloc o).alloc o').drew.heap[W.heap.size]? = some o := bx2a W o o'
theorem bx2b (W : World) (o o' : Obj) : ((W.alloc o).alloc o').heap[W.heap.size + 1]? = some o' := by have h := heap_alloc_new (W.alloc o) o'; simpa using h
theorem bx2bd (W : World) (o o' : Obj) : ((W.alloc o).alloc o').drew.heap[W.heap.size + 1]? = some o' := bx2b W o o'
theorem over5_other (w : World) (b : Nat) (r : Rp) (kv : Value) (k : Nat) (hk : k ≠ b) : (over5 w b r kv).heap[k]? = w.heap[k]? := by
  unfold over5
  rw [Below.heap_setCell _ _ _ _ hk, Below.heap_setCell _ _ _ _ hk, Below.heap_setCell _ _ _ _ hk, Below.heap_setCell _ _ _ _ hk, Below.heap_setCell _ _ _ _ hk]
theorem over5_size (w : World) (b : Nat) (r : Rp) (kv : Value) : (over5 w b r kv).heap.size = w.heap.size := by
  unfold over5
  simp [World.setCell]
theorem both_A1 {r : Rp} {kva kvb : Value} (h : PlayC w wr c rc kb O F R v s m LsT LsI) (h1 : Hand wr (S2 O F rc v) 9 1 r.keys.length kva (strs r.keys)) (h2 : Hand wr (S2 O F rc v) 9 1 r.keys.length kvb (strs r.keys)) (hf : ∀ k, kva.ownBlock = some k → w.heap.size ≤ k) :
    BothC w ((wr.alloc (Obj.cells #[.int .i64 r.errno, .string r.val, .int .i64 r.num, .int .i64 r.ver, kva] 51)).alloc (Obj.cells #[.int .i64 r.errno, .string r.val, .int .i64 r.num, .int .i64 r.ver, kvb] 51)) c rc kb F R s m LsT LsI r wr.heap.size (wr.heap.size + 1) := by
  have hz := h.tri.kept.size
  exact both_end h h1 h2 hf ⟨hz, .inl (Nat.le_refl _)⟩ ⟨by omega, .inl (by omega)⟩ (((Kept.refl _ wr).alloc _).alloc _) (bx2a wr _ _) (bx2b wr _ _)
theorem both_A2 {r : Rp} {kva kvb : Value} (h : PlayC w wr c rc kb O F R v s m LsT LsI) (h1 : Hand wr (S2 O F rc v) 9 1 r.keys.length kva (strs r.keys)) (h2 : Hand wr (S2 O F rc v) 9 1 r.keys.length kvb (strs r.keys)) (hf : ∀ k, kva.ownBlock = some k → w.heap.size ≤ k) :
    BothC w ((wr.alloc (Obj.cells #[.int .i64 r.errno, .string r.val, .int .i64 r.num, .int .i64 r.ver, kvb] 51)).alloc (Obj.cells #[.int .i64 r.errno, .string r.val, .int .i64 r.num, .int .i64 r.ver, kva] 51)) c rc kb F R s m LsT LsI r (wr.heap.size + 1) wr.heap.size := by
  have hz := h.tri.kept.size
  exact both_end h h1 h2 hf ⟨by omega, .inl (by omega)⟩ ⟨hz, .inl (Nat.le_refl _)⟩ (((Kept.refl _ wr).alloc _).alloc _) (bx2b wr _ _) (bx2a wr _ _)
theorem both_B1 {r : Rp} {kva kvb : Value} (h : PlayC w wr c rc kb O F R v s m LsT LsI) (h1 : Hand wr (S2 O F rc v) 9 1 r.keys.length kva (strs r.keys)) (h2 : Hand wr (S2 O F rc v) 9 1 r.keys.length kvb (strs r.keys)) (hf : ∀ k, kva.ownBlock = some k → w.heap.size ≤ k) {b : Nat} (hb : w.heap.size ≤ b) (ha : Aside wr (S2 O F rc v) b zRp) :
    BothC w ((((((wr.setCell ⟨b, 0, none⟩ (.int .i64 r.errno)).setCell ⟨b, 1, none⟩ (.string r.val)).setCell ⟨b, 2, none⟩ (.int .i64 r.num)).setCell ⟨b, 3, none⟩ (.int .i64 r.ver)).setCell ⟨b, 4, none⟩ kva).alloc (Obj.cells #[.int .i64 r.errno, .string r.val, .int .i64 r.num, .int .i64 r.ver, kvb] 51)) c rc kb F R s m LsT LsI r b wr.heap.size := by
  have hz := h.tri.kept.size
  have hl := lt_of_block ha.1
  have hs := over5_size wr b r kva
  refine both_end (W3 := (over5 wr b r kva).alloc (Obj.cells #[.int .i64 r.errno, .string r.val, .int .i64 r.num, .int .i64 r.ver, kvb] 51)) h h1 h2 hf ⟨hb, .inr ha⟩ ⟨hz, .inl (Nat.le_refl _)⟩ (((over5_kept wr b r kva).mono (fun k _ e => .inl e)).alloc _) ((Below.heap_alloc _ _ _ (by omega)).trans (over5_block ha.1 r kva)) ?_
  rw [← hs]
  exact heap_alloc_new _ _
theorem both_B2 {r : Rp} {kva kvb : Value} (h : PlayC w wr c rc kb O F R v s m LsT LsI) (h1 : Hand wr (S2 O F rc v) 9 1 r.keys.length kva (strs r.keys)) (h2 : Hand wr (S2 O F rc v) 9 1 r.keys.length kvb (strs r.keys)) (hf : ∀ k, kva.ownBlock = some k → w.heap.size ≤ k) {b : Nat} (hb : w.heap.size ≤ b) (ha : Aside wr (S2 O F rc v) b zRp) :
    BothC w ((((((wr.setCell ⟨b, 0, none⟩ (.int .i64 r.errno)).setCell ⟨b, 1, none⟩ (.string r.val)).setCell ⟨b, 2, none⟩ (.int .i64 r.num)).setCell ⟨b, 3, none⟩ (.int .i64 r.ver)).setCell ⟨b, 4, none⟩ kvb).alloc (Obj.cells #[.int .i64 r.errno, .string r.val, .int .i64 r.num, .int .i64 r.ver, kva] 51)) c rc kb F R s m LsT LsI r wr.heap.size b := by
  have hz := h.tri.kept.size
  have hl := lt_of_block ha.1
  have hs := over5_size wr b r kvb
  refine both_end (W3 := (over5 wr b r kvb).alloc (Obj.cells #[.int .i64 r.errno, .string r.val, .int .i64 r.num, .int .i64 r.ver, kva] 51)) h h1 h2 hf ⟨hz, .inl (Nat.le_refl _)⟩ ⟨hb, .inr ha⟩ (((over5_kept wr b r kvb).mono (fun k _ e => .inr e)).alloc _) ?_ ((Below.heap_alloc _ _ _ (by omega)).trans (over5_block ha.1 r kvb))
  rw [← hs]
  exact heap_alloc_new _ _
theorem both_C {r : Rp} {kva kvb : Value} (h : PlayC w wr c rc kb O F R v s m LsT LsI) (h1 : Hand wr (S2 O F rc v) 9 1 r.keys.length kva (strs r.keys)) (h2 : Hand wr (S2 O F rc v) 9 1 r.keys.length kvb (strs r.keys)) (hf : ∀ k, kva.ownBlock = some k → w.heap.size ≤ k) {ba bb : Nat} (hne : ba ≠ bb) (hba : w.heap.size ≤ ba) (ha : Aside wr (S2 O F rc v) ba zRp) (hbb : w.heap.size ≤ bb) (hb : Aside wr (S2 O F rc v) bb zRp) :
    BothC w ((((((((((wr.setCell ⟨ba, 0, none⟩ (.int .i64 r.errno)).setCell ⟨ba, 1, none⟩ (.string r.val)).setCell ⟨ba, 2, none⟩ (.int .i64 r.num)).setCell ⟨ba, 3, none⟩ (.int .i64 r.ver)).setCell ⟨ba, 4, none⟩ kva).setCell ⟨bb, 0, none⟩ (.int .i64 r.errno)).setCell ⟨bb, 1, none⟩ (.string r.val)).setCell ⟨bb, 2, none⟩ (.int .i64 r.num)).setCell ⟨bb, 3, none⟩ (.int .i64 r.ver)).setCell ⟨bb, 4, none⟩ kvb) c rc kb F R s m LsT LsI r ba bb := by
  refine both_end (W3 := over5 (over5 wr ba r kva) bb r kvb) h h1 h2 hf ⟨hba, .inr ha⟩ ⟨hbb, .inr hb⟩ (((over5_kept wr ba r kva).mono (T := fun k => k = ba ∨ k = bb) (fun k _ e => .inl e)).trans (over5_kept _ bb r kvb) (fun k _ e => .inr e)) ?_ (over5_block ((over5_other _ _ _ _ _ (Ne.symm hne)).trans hb.1) r kvb)
  exact (over5_other _ _ _ _ _ hne).trans (over5_block ha.1 r kva)
/-- The start. -/
theorem PlayC.start {w1 w3 w4 : World} {b : Int} (hk : Kept (fun _ => False) w w1) (hg : ∀ k, isG k → k < w.heap.size) (hc : CS w2 c O (newC b)) (hO : ∀ k, O k → w1.heap.size ≤ k) (k2 : Kept (fun _ => False) w1 w2)
    (hr : RC w3 rc (.slice none 0 0) (newC b)) (k3 : Kept (fun _ => False) w2 w3) (hrc : w2.heap.size ≤ rc) (h4 : w4 = w3.alloc (.cells (bookArr (.slice none 0 0) (.slice none 0 0) (.slice none 0 0) (.slice none 0 0)) 37)) :
    PlayC w w4 c rc w3.heap.size O (fun k => k = w3.heap.size) (fun k => k = w3.heap.size) (.slice none 0 0) (newC b) 0 [] [] := by
  subst h4
  have z1 := hk.size
  have z2 := k2.size
  have z3 := k3.size
  have k4 : Kept (fun _ => False) w3 (w3.alloc (.cells (bookArr (.slice none 0 0) (.slice none 0 0) (.slice none 0 0) (.slice none 0 0)) 37)) := (Kept.refl _ _).alloc _
  have bk := BookHas2.new w3
  have z4 : (w3.alloc (.cells (bookArr (.slice none 0 0) (.slice none 0 0) (.slice none 0 0) (.slice none 0 0)) 37)).heap.size = w3.heap.size + 1 := by simp
  generalize w3.alloc (.cells (bookArr (.slice none 0 0) (.slice none 0 0) (.slice none 0 0) (.slice none 0 0)) 37) = w4 at *
  have hrl := lt_of_block hr.blk
  have hF : ∀ k, refF rc (.slice none 0 0) k → k = rc := fun k hk => hk.elim id (fun e => by cases e)
  refine ⟨(hc.kept0 k3).kept0 k4, newC_good b, hr.kept0 k4, bk, ⟨((hk.trans k2 (fun _ _ h => h)).trans k3 (fun _ _ h => h)).trans k4 (fun _ _ h => h), fun k hk => ?_, fun k hk => ?_, fun k ha hb => ?_, fun k ha hb => ?_, fun k ha hb => ?_⟩, hg, fun k h => h⟩
  · rcases hk with e | e | e
    · have := hO k e; omega
    · have := hF k e; omega
    · omega
  · rcases hk with e | e | e
    · have := hc.lt e; omega
    · have := hF k e; omega
    · omega
  · have := hc.lt ha; have := hF k hb; omega
  · have := hc.lt ha; omega
  · have := hF k ha; omega
end
end Go.Proofs.YtekcjoogggoijaaGreatDoor
