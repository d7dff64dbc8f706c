/-
  No cell of these rows narrows 'for every input' (looked for: loops, veiled, ifaces, maps, wideKeys, modest, calm, conditions, laid).
  DERIVED. THE GIVEN ROWS OF THIS SEAT. 4 by the template 'for every input the law returns true; each argument reads behind the call as it read before'; 0 by the template 'total and deterministic' (their statements: YthchacmkeppjcaaTotals.lean).
  GIVEN WITH THE SEED: the statements are not yours to turn. If you find one false, say at which input.
  Laid BY PROGRAM, IN A SANDBOX (cutbox-rows.mjs): the forced cells as the released guide's own fill.sh prints them over the translation 1d5edf693f6b8fd5… (all of the seat's roots in one cut). By AI agents, Wed Nov 11 2026. No macro, syntax, notation, axiom, sorry.
-/
import Derived.Test.YthchacmkeppjcaaChecked
import GoSem.Claim
import GoSem.ClaimJoined
import GoSem.ClaimMapViews
import Derived.JoinedTies
import Derived.KernelRfl
namespace Go.Proofs.Ythchacmkeppjcaa
/- THE CELL 'sum', in the pinned program and in every row, IS THE sha256 OF THE DUMP (.gsa) THAT YthchacmkeppjcaaProg.lean LOADS. Nothing in Lean hashes anything: it is a label: what it is worth is what the hold of that sum in a sandbox is worth. -/
noncomputable def Try.pinned : Pinned := { name := "ythchacmkeppjcaa", sum := "1d5edf693f6b8fd5a361d003adbbdf4adaf2cfdaaca090eafc12009914624523", checked := Try.checked }
namespace Rows
def none {H : Type} : Left H := { results := [], args := [] }

/-- 'escutcheonlaw19.RingPlays': WHATEVER THE INPUT: true; the input reads as it did. -/
def ringPlaysSpec : ChangeSpec := { name := "ringPlays", fn := fun _ => fun
  | [d1, d2] => { results := [.lit (.bool true)], args := [d1, d2] }
  | _ => none }
def ringPlaysRow : OpenClaim := { program := "ythchacmkeppjcaa", sum := "1d5edf693f6b8fd5a361d003adbbdf4adaf2cfdaaca090eafc12009914624523", func := "escutcheon/escutcheonlaw19.RingPlays", spec := "ringPlays", inPlace := ["sync/atomic.AddInt64", "sync/atomic.LoadInt64"], apart := false }
def RingPlaysSaid : Prop := ringPlaysRow.holds Try.pinned (OpenSpec.ofChange ringPlaysSpec)

/-- ITS FALSE NEIGHBOUR: 'it returns false'. Refute it at one input. -/
def ringPlaysWrong : ChangeSpec := { name := "ringPlays", fn := fun _ => fun
  | [d1, d2] => { results := [.lit (.bool false)], args := [d1, d2] }
  | _ => none }
def RingPlaysWrongFalsely : Prop := ringPlaysRow.holds Try.pinned (OpenSpec.ofChange ringPlaysWrong)

/-- 'escutcheonlaw19.RingTwo': WHATEVER THE INPUT: true; the input reads as it did. -/
def ringTwoSpec : ChangeSpec := { name := "ringTwo", fn := fun _ => fun
  | [d1, d2, d3] => { results := [.lit (.bool true)], args := [d1, d2, d3] }
  | _ => none }
def ringTwoRow : OpenClaim := { program := "ythchacmkeppjcaa", sum := "1d5edf693f6b8fd5a361d003adbbdf4adaf2cfdaaca090eafc12009914624523", func := "escutcheon/escutcheonlaw19.RingTwo", spec := "ringTwo", inPlace := ["sync/atomic.AddInt64", "sync/atomic.LoadInt64"], apart := false }
def RingTwoSaid : Prop := ringTwoRow.holds Try.pinned (OpenSpec.ofChange ringTwoSpec)

/-- ITS FALSE NEIGHBOUR: 'it returns false'. Refute it at one input. -/
def ringTwoWrong : ChangeSpec := { name := "ringTwo", fn := fun _ => fun
  | [d1, d2, d3] => { results := [.lit (.bool false)], args := [d1, d2, d3] }
  | _ => none }
def RingTwoWrongFalsely : Prop := ringTwoRow.holds Try.pinned (OpenSpec.ofChange ringTwoWrong)

/-- 'escutcheonlaw19.RingOne': WHATEVER THE INPUT: true; the input reads as it did. -/
def ringOneSpec : ChangeSpec := { name := "ringOne", fn := fun _ => fun
  | [d] => { results := [.lit (.bool true)], args := [d] }
  | _ => none }
def ringOneRow : OpenClaim := { program := "ythchacmkeppjcaa", sum := "1d5edf693f6b8fd5a361d003adbbdf4adaf2cfdaaca090eafc12009914624523", func := "escutcheon/escutcheonlaw19.RingOne", spec := "ringOne", inPlace := ["sync/atomic.AddInt64", "sync/atomic.LoadInt64"], apart := false }
def RingOneSaid : Prop := ringOneRow.holds Try.pinned (OpenSpec.ofChange ringOneSpec)

/-- ITS FALSE NEIGHBOUR: 'it returns false'. Refute it at one input. -/
def ringOneWrong : ChangeSpec := { name := "ringOne", fn := fun _ => fun
  | [d] => { results := [.lit (.bool false)], args := [d] }
  | _ => none }
def RingOneWrongFalsely : Prop := ringOneRow.holds Try.pinned (OpenSpec.ofChange ringOneWrong)

/-- 'escutcheonlaw19.RingGreat': WHATEVER THE INPUT: true; the input reads as it did. -/
def ringGreatSpec : ChangeSpec := { name := "ringGreat", fn := fun _ => fun
  | [d1, d2] => { results := [.lit (.bool true)], args := [d1, d2] }
  | _ => none }
def ringGreatRow : OpenClaim := { program := "ythchacmkeppjcaa", sum := "1d5edf693f6b8fd5a361d003adbbdf4adaf2cfdaaca090eafc12009914624523", func := "escutcheon/escutcheonlaw19.RingGreat", spec := "ringGreat", inPlace := ["sync/atomic.AddInt64", "sync/atomic.LoadInt64"], apart := false }
def RingGreatSaid : Prop := ringGreatRow.holds Try.pinned (OpenSpec.ofChange ringGreatSpec)

/-- ITS FALSE NEIGHBOUR: 'it returns false'. Refute it at one input. -/
def ringGreatWrong : ChangeSpec := { name := "ringGreat", fn := fun _ => fun
  | [d1, d2] => { results := [.lit (.bool false)], args := [d1, d2] }
  | _ => none }
def RingGreatWrongFalsely : Prop := ringGreatRow.holds Try.pinned (OpenSpec.ofChange ringGreatWrong)

/- THE SECOND FORM. 'bulk': how many values and letters a reading holds, each counted each time it is reached (what is shared counts as often as it is met; a slice's spare places count too). A statement '..UptoSaid' is the law's where the arguments, and the package variables that the reading takes, are together of bulk at most 1048576: NARROWER than '..Said'. Prove '..Said' where nothing that the law and all that it calls make is longer than what came in: it says more and counts as full. Else prove '..UptoSaid'. A law counts once. -/
mutual
def uptoBulk {H : Type} : DataW H → Nat
  | .lit (.string bytes) => bytes.length + 1
  | .lit _ => 1
  | .nil => 1
  | .ptr d => uptoBulk d + 1
  | .slice elems spare => uptoBulkAll elems + uptoBulkAll spare + 1
  | .agg parts => uptoBulkAll parts + 1
  | .iface _ d => uptoBulk d + 1
  | .map entries => uptoBulkEntries entries + 1
  | .held _ => 1
def uptoBulkAll {H : Type} : List (DataW H) → Nat
  | [] => 0
  | d :: r => uptoBulk d + uptoBulkAll r
def uptoBulkEntries {H : Type} : List (Lit × DataW H) → Nat
  | [] => 0
  | x :: r => uptoBulkEntry x + uptoBulkEntries r
def uptoBulkEntry {H : Type} : Lit × DataW H → Nat
  | (.string bytes, d) => bytes.length + uptoBulk d + 1
  | (_, d) => uptoBulk d + 1
 end
def uptoSmall : (H : Type) → List (DataW H) → Bool := fun _ ds => decide (uptoBulkAll ds ≤ 1048576)
def OpenSpec.upto (s : _root_.Go.ChangeSpec) : _root_.Go.OpenSpec := { _root_.Go.OpenSpec.ofChange s with cond := some uptoSmall }

/-- 'escutcheonlaw19.RingPlays', WHERE WHAT IT READS IS OF BULK AT MOST 1048576: true; the input reads as it did. -/
def ringPlaysUptoRow : OpenClaim := { program := "ythchacmkeppjcaa", sum := "1d5edf693f6b8fd5a361d003adbbdf4adaf2cfdaaca090eafc12009914624523", func := "escutcheon/escutcheonlaw19.RingPlays", spec := "ringPlays", inPlace := ["sync/atomic.AddInt64", "sync/atomic.LoadInt64"], apart := false, narrowed := true }
def RingPlaysUptoSaid : Prop := ringPlaysUptoRow.holds Try.pinned (OpenSpec.upto ringPlaysSpec)

/-- 'escutcheonlaw19.RingTwo', WHERE WHAT IT READS IS OF BULK AT MOST 1048576: true; the input reads as it did. -/
def ringTwoUptoRow : OpenClaim := { program := "ythchacmkeppjcaa", sum := "1d5edf693f6b8fd5a361d003adbbdf4adaf2cfdaaca090eafc12009914624523", func := "escutcheon/escutcheonlaw19.RingTwo", spec := "ringTwo", inPlace := ["sync/atomic.AddInt64", "sync/atomic.LoadInt64"], apart := false, narrowed := true }
def RingTwoUptoSaid : Prop := ringTwoUptoRow.holds Try.pinned (OpenSpec.upto ringTwoSpec)

/-- 'escutcheonlaw19.RingOne', WHERE WHAT IT READS IS OF BULK AT MOST 1048576: true; the input reads as it did. -/
def ringOneUptoRow : OpenClaim := { program := "ythchacmkeppjcaa", sum := "1d5edf693f6b8fd5a361d003adbbdf4adaf2cfdaaca090eafc12009914624523", func := "escutcheon/escutcheonlaw19.RingOne", spec := "ringOne", inPlace := ["sync/atomic.AddInt64", "sync/atomic.LoadInt64"], apart := false, narrowed := true }
def RingOneUptoSaid : Prop := ringOneUptoRow.holds Try.pinned (OpenSpec.upto ringOneSpec)

/-- 'escutcheonlaw19.RingGreat', WHERE WHAT IT READS IS OF BULK AT MOST 1048576: true; the input reads as it did. -/
def ringGreatUptoRow : OpenClaim := { program := "ythchacmkeppjcaa", sum := "1d5edf693f6b8fd5a361d003adbbdf4adaf2cfdaaca090eafc12009914624523", func := "escutcheon/escutcheonlaw19.RingGreat", spec := "ringGreat", inPlace := ["sync/atomic.AddInt64", "sync/atomic.LoadInt64"], apart := false, narrowed := true }
def RingGreatUptoSaid : Prop := ringGreatUptoRow.holds Try.pinned (OpenSpec.upto ringGreatSpec)

end Rows
end Go.Proofs.Ythchacmkeppjcaa
