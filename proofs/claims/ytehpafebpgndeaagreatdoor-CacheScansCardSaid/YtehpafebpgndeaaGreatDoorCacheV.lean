/-
  A cache of a law's own, and a slice beside it that grows.
-/
import Derived.Test.YtehpafebpgndeaaGreatDoorCachePlain
import Derived.Test.YtehpafebpgndeaaGreatDoorBytes
namespace Go.Proofs.YtehpafebpgndeaaGreatDoor
set_option linter.unusedVariables false
set_option linter.unusedSimpArgs false
set_option linter.unnecessarySimpa false
open Go.RowKit
set_option maxRecDepth 100000

@[simp, go_sem] theorem rp_errno (e : Int) : (Rp.err e).errno = e := rfl
@[simp, go_sem] theorem rp_val (e : Int) : (Rp.err e).val = ⟨#[]⟩ := rfl
@[simp, go_sem] theorem rp_num (e : Int) : (Rp.err e).num = 0 := rfl
@[simp, go_sem] theorem rp_ver (e : Int) : (Rp.err e).ver = 0 := rfl
@[simp, go_sem] theorem rp_keys (e : Int) : (Rp.err e).keys = [] := rfl

@[simp, go_sem] theorem field_errno (W : World) (b c d e : Value) (a : Int) : (Instr.field 36 (.agg #[.int .i64 a, b, c, d, e]) 0).run Tryz.prog W = .ok (.int .i64 a) W := by kernel_rfl
@[simp, go_sem] theorem field_val (W : World) (a c d e : Value) (b : ByteArray) : (Instr.field 36 (.agg #[a, .string b, c, d, e]) 1).run Tryz.prog W = .ok (.string b) W := by kernel_rfl
@[simp, go_sem] theorem field_num (W : World) (a b d e : Value) (c : Int) : (Instr.field 36 (.agg #[a, b, .int .i64 c, d, e]) 2).run Tryz.prog W = .ok (.int .i64 c) W := by kernel_rfl
@[simp, go_sem] theorem field_ver (W : World) (a b c e : Value) (d : Int) : (Instr.field 36 (.agg #[a, b, c, .int .i64 d, e]) 3).run Tryz.prog W = .ok (.int .i64 d) W := by kernel_rfl
theorem OwnC.le {w0 w : World} {c : Nat} {s : CSt} {m : Int} {B : List (Nat × Obj)} (h : OwnC w0 w c s m B) {m' : Int} (hm : m ≤ m') : OwnC w0 w c s m' B := ⟨h.1.le hm, h.2⟩
theorem Laid.kept0 {w w' : World} (h : Laid w) (hk : Kept (fun _ => False) w w') : Laid w' := h.kept hk (fun _ _ h => h)
structure Outr (w0 : World) (c : Nat) (s : CSt) (m : Int) (E : TypeId) (size n : Nat) (v : Value) (xs : List Value) (wr : World) : Prop where
  good : GoodC s m
  cs : ∃ O', CS wr c O' s ∧ Grew (fun _ => False) w0 O' wr ∧ ∀ k, v.ownBlock = some k → ¬ O' k
  vs : Sl wr E size n v xs
  vf : ∀ k, v.ownBlock = some k → w0.heap.size ≤ k
  gl : ∀ k, isG k → k < w0.heap.size
section
variable {w0 wr w' : World} {c : Nat} {s s' : CSt} {m : Int} {E : TypeId} {size n : Nat} {v : Value} {xs : List Value}
theorem Outr.keep (h : Outr w0 c s m E size n v xs wr) : Kept (fun _ => False) w0 wr := by
  obtain ⟨_, _, h2, _⟩ := h.cs
  exact h2.1
theorem Outr.kept0 (h : Outr w0 c s m E size n v xs wr) (hk : Kept (fun _ => False) wr w') : Outr w0 c s m E size n v xs w' := by
  obtain ⟨O', h1, h2, h3⟩ := h.cs
  exact ⟨h.good, ⟨O', h1.kept0 hk, h2.kept hk, h3⟩, h.vs.kept hk (fun _ _ h => h), h.vf, h.gl⟩
theorem OwnC.outr {B : List (Nat × Obj)} (h : OwnC w0 wr c s m B) (E : TypeId) (size : Nat) : Outr w0 c s m E size 0 (.slice none 0 0) [] wr := by
  obtain ⟨O', h1, h2, _⟩ := h.2.cs
  exact ⟨h.1, ⟨O', h1, h2, fun k hk => by cases hk⟩, Sl.nil _ _ _, (fun k hk => by cases hk), h.2.gl⟩
theorem Outr.own (h : Outr w0 c s m E size n v xs wr) : OwnC w0 wr c s m [] := by
  obtain ⟨O', h1, h2, _⟩ := h.cs
  exact ⟨h.good, ⟨O', h1, h2, fun p hp => by cases hp⟩, (fun p hp => by cases hp), h.gl, List.nodup_nil⟩
theorem Outr.does (h : Outr w0 c s m E size n v xs wr) (hm : m ≤ 1000000000) (x : Cm) (now : Int) (hk : x.key.size ≤ 1000000000) (hv : x.val.size ≤ 1000000000) (h11 : x.op ≠ 11) (h12 : x.op ≠ 12) {r : Rp} (hr : doC s x now = (r, s')) :
    Calls Tryz.prog 27 #[.pointer (some ⟨c, 0, none⟩), .agg #[.int .i64 x.op, .string x.key, .string x.val, .int .i64 x.num, .int .i64 x.ver], .int .i64 now] wr fun e w' => e = .returned (.agg #[.int .i64 r.errno, .string r.val, .int .i64 r.num, .int .i64 r.ver, .slice none 0 0]) ∧ Outr w0 c s' (m + 1) E size n v xs w' := by
  obtain ⟨O', h1, h2, h3⟩ := h.cs
  have hg' := h.good.does x now
  have hc := cdo c O' s x now wr h1 (h.good.fit hm) hk hv h11 h12
  rw [hr] at hc hg'
  refine hc.mono ?_
  rintro e w' ⟨rfl, O'', g1, g2⟩
  exact ⟨rfl, hg', ⟨O'', g1, h2.trans g2, fun k e hO => (g2.2 k hO).elim (h3 k e) (fun hh => by have := h.vs.lt e; omega)⟩, h.vs.kept g2.1 (fun k e => h3 k e), h.vf, h.gl⟩
theorem Outr.push (h : Outr w0 c s m E size n v xs wr) {W w2 : World} (hk : Kept (fun _ => False) wr W) {g off cap j : Nat} {news : List Value}
    (h1 : Sl w2 E size (n + j) (.slice (some ⟨g, off, none⟩) (n + j) cap) (xs ++ news)) (h2 : Kept (fun i => v.ownBlock = some i) W w2) (h3 : v.ownBlock = some g ∨ W.heap.size ≤ g) :
    Outr w0 c s m E size (n + j) (.slice (some ⟨g, off, none⟩) (n + j) cap) (xs ++ news) w2 := by
  have h := h.kept0 hk
  obtain ⟨O', c1, c2, c3⟩ := h.cs
  have hob : ∀ k, (Value.slice (some ⟨g, off, none⟩) (n + j) cap).ownBlock = some k → k = g := fun k e => by simp [Value.ownBlock] at e; exact e.symm
  have hgs : w0.heap.size ≤ W.heap.size := c2.1.size
  refine ⟨h.good, ⟨O', c1.kept h2 (fun k hO e => c3 k e hO) (fun k hg e => by have := h.gl k hg; have := h.vf k e; omega), c2.keptT h2 (fun i hi e => by have := h.vf i e; omega), fun k e hO => ?_⟩,
    h1, fun k e => ?_, h.gl⟩
  · obtain rfl := hob k e
    rcases h3 with h3 | h3
    · exact c3 _ h3 hO
    · have := c1.lt hO; omega
  · obtain rfl := hob k e
    exact h3.elim (h.vf _) (fun e => by omega)
end

/-- Commands and replies in memory. -/
def Cm.cells (x : Cm) : List Value := [.int .i64 x.op, .string x.key, .string x.val, .int .i64 x.num, .int .i64 x.ver]
def Rp.cells (r : Rp) : List Value := [.int .i64 r.errno, .string r.val, .int .i64 r.num, .int .i64 r.ver, .slice none 0 0]
def flatC (l : List Cm) : List Value := l.flatMap Cm.cells
def flatR (l : List Rp) : List Value := l.flatMap Rp.cells
theorem flat5 {α : Type} {f : α → List Value} (hf : ∀ x, (f x).length = 5) : ∀ (l : List α) (i : Nat) (h : i < l.length) (j : Nat), j < 5 → (l.flatMap f)[i * 5 + j]? = (f l[i])[j]?
  | x :: l, 0, h, j, hj => by rw [List.flatMap_cons, Nat.zero_mul, Nat.zero_add, List.getElem?_append_left (by rw [hf]; omega)]; rfl
  | x :: l, i + 1, h, j, hj => by
    rw [List.flatMap_cons, List.getElem?_append_right (by rw [hf]; omega), hf, show (i + 1) * 5 + j - 5 = i * 5 + j by omega]
    exact flat5 hf l i (by simpa using h) j hj
theorem rd_cm {w : World} {v : Value} {l : List Cm} {ao : Option Addr} {m c : Nat} (h : Rd w 5 l.length v (flatC l)) (hv : v = .slice ao m c) (i : Nat) (hi : i < l.length) :
    ∃ g off, ao = some ⟨g, off, none⟩ ∧ w.cell? ⟨g, off + i * 5, none⟩ = some (.int .i64 l[i].op) ∧ w.cell? ⟨g, off + i * 5 + 1, none⟩ = some (.string l[i].key) ∧ w.cell? ⟨g, off + i * 5 + 2, none⟩ = some (.string l[i].val) ∧ w.cell? ⟨g, off + i * 5 + 3, none⟩ = some (.int .i64 l[i].num) ∧ w.cell? ⟨g, off + i * 5 + 4, none⟩ = some (.int .i64 l[i].ver) := by
  subst hv
  obtain ⟨rfl, _, hc⟩ := h.at
  have f := fun j hj => flat5 (f := Cm.cells) (fun _ => rfl) l i hi j hj
  obtain ⟨g, off, rfl, h0⟩ := hc (i * 5 + 0) _ (f 0 (by omega))
  have e : ∀ j u, j < 5 → (l[i]).cells[j]? = some u → w.cell? ⟨g, off + i * 5 + j, none⟩ = some u := fun j u hj hu => by
    obtain ⟨g', off', h3, h4⟩ := hc (i * 5 + j) u ((f j hj).trans hu)
    injection h3 with h3
    injection h3 with h5 h6
    subst h5 h6
    rwa [← Nat.add_assoc] at h4
  exact ⟨g, off, rfl, h0, e 1 _ (by omega) rfl, e 2 _ (by omega) rfl, e 3 _ (by omega) rfl, e 4 _ (by omega) rfl⟩
theorem flatR_snoc (l : List Rp) (r : Rp) : flatR (l ++ [r]) = flatR l ++ r.cells := by simp [flatR]
theorem rp_info : (Tryz.prog.info? 36).map (fun i => (i.zero, i.size, i.bytes)) = some (some (.agg #[.int .i64 0, .string ByteArray.empty, .int .i64 0, .int .i64 0, .slice none 0 0]), 5, 64) := by kernel_rfl

end Go.Proofs.YtehpafebpgndeaaGreatDoor
