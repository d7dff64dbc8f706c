/-
  No cell of these rows narrows 'for every input' (looked for: loops, veiled, ifaces, maps, wideKeys, modest, calm, conditions, laid).
  DERIVED. THE GIVEN ROWS OF THIS SEAT. 4 by the template 'for every input the law returns true; each argument reads behind the call as it read before'; 0 by the template 'total and deterministic' (their statements: YtgfpcjieonniiaaTotals.lean).
  GIVEN WITH THE SEED: the statements are not yours to turn. If you find one false, say at which input.
  Laid BY PROGRAM, IN A SANDBOX (cutbox-rows.mjs): the forced cells as the released guide's own fill.sh prints them over the translation 349c66996a6a08e0… (all of the seat's roots in one cut). By AI agents, Wed Nov 11 2026. No macro, syntax, notation, axiom, sorry.
-/
import Derived.Test.YtgfpcjieonniiaaChecked
import GoSem.Claim
import GoSem.ClaimJoined
import GoSem.ClaimMapViews
import Derived.JoinedTies
import Derived.KernelRfl
namespace Go.Proofs.Ytgfpcjieonniiaa
/- THE CELL 'sum', in the pinned program and in every row, IS THE sha256 OF THE DUMP (.gsa) THAT YtgfpcjieonniiaaProg.lean LOADS. Nothing in Lean hashes anything: it is a label: what it is worth is what the hold of that sum in a sandbox is worth. -/
noncomputable def Try.pinned : Pinned := { name := "ytgfpcjieonniiaa", sum := "349c66996a6a08e0dea977bd26069626704ba3edaf4c54f45446102c05784c49", checked := Try.checked }
namespace Rows
def none {H : Type} : Left H := { results := [], args := [] }

/-- 'escutcheonlaw14.UsersApart': WHATEVER THE INPUT: true; the input reads as it did. -/
def usersApartSpec : ChangeSpec := { name := "usersApart", fn := fun _ => fun
  | [d1, d2] => { results := [.lit (.bool true)], args := [d1, d2] }
  | _ => none }
def usersApartRow : OpenClaim := { program := "ytgfpcjieonniiaa", sum := "349c66996a6a08e0dea977bd26069626704ba3edaf4c54f45446102c05784c49", func := "escutcheon/escutcheonlaw14.UsersApart", spec := "usersApart", inPlace := ["sync/atomic.AddInt64", "sync/atomic.StoreInt64", "sync/atomic.LoadInt64"], apart := false }
def UsersApartSaid : Prop := usersApartRow.holds Try.pinned (OpenSpec.ofChange usersApartSpec)

/-- ITS FALSE NEIGHBOUR: 'it returns false'. Refute it at one input. -/
def usersApartWrong : ChangeSpec := { name := "usersApart", fn := fun _ => fun
  | [d1, d2] => { results := [.lit (.bool false)], args := [d1, d2] }
  | _ => none }
def UsersApartWrongFalsely : Prop := usersApartRow.holds Try.pinned (OpenSpec.ofChange usersApartWrong)

/-- 'escutcheonlaw14.UsersLock': WHATEVER THE INPUT: true; the input reads as it did. -/
def usersLockSpec : ChangeSpec := { name := "usersLock", fn := fun _ => fun
  | [d1, d2, d3, d4] => { results := [.lit (.bool true)], args := [d1, d2, d3, d4] }
  | _ => none }
def usersLockRow : OpenClaim := { program := "ytgfpcjieonniiaa", sum := "349c66996a6a08e0dea977bd26069626704ba3edaf4c54f45446102c05784c49", func := "escutcheon/escutcheonlaw14.UsersLock", spec := "usersLock", inPlace := ["sync/atomic.AddInt64", "sync/atomic.StoreInt64", "sync/atomic.LoadInt64"], apart := false }
def UsersLockSaid : Prop := usersLockRow.holds Try.pinned (OpenSpec.ofChange usersLockSpec)

/-- ITS FALSE NEIGHBOUR: 'it returns false'. Refute it at one input. -/
def usersLockWrong : ChangeSpec := { name := "usersLock", fn := fun _ => fun
  | [d1, d2, d3, d4] => { results := [.lit (.bool false)], args := [d1, d2, d3, d4] }
  | _ => none }
def UsersLockWrongFalsely : Prop := usersLockRow.holds Try.pinned (OpenSpec.ofChange usersLockWrong)

/-- 'escutcheonlaw14.UsersNone': WHATEVER THE INPUT: true; the input reads as it did. -/
def usersNoneSpec : ChangeSpec := { name := "usersNone", fn := fun _ => fun
  | [d1, d2, d3] => { results := [.lit (.bool true)], args := [d1, d2, d3] }
  | _ => none }
def usersNoneRow : OpenClaim := { program := "ytgfpcjieonniiaa", sum := "349c66996a6a08e0dea977bd26069626704ba3edaf4c54f45446102c05784c49", func := "escutcheon/escutcheonlaw14.UsersNone", spec := "usersNone", inPlace := ["sync/atomic.AddInt64", "sync/atomic.StoreInt64", "sync/atomic.LoadInt64"], apart := false }
def UsersNoneSaid : Prop := usersNoneRow.holds Try.pinned (OpenSpec.ofChange usersNoneSpec)

/-- ITS FALSE NEIGHBOUR: 'it returns false'. Refute it at one input. -/
def usersNoneWrong : ChangeSpec := { name := "usersNone", fn := fun _ => fun
  | [d1, d2, d3] => { results := [.lit (.bool false)], args := [d1, d2, d3] }
  | _ => none }
def UsersNoneWrongFalsely : Prop := usersNoneRow.holds Try.pinned (OpenSpec.ofChange usersNoneWrong)

/-- 'escutcheonlaw14.UsersMany': WHATEVER THE INPUT: true; the input reads as it did. -/
def usersManySpec : ChangeSpec := { name := "usersMany", fn := fun _ => fun
  | [d1, d2] => { results := [.lit (.bool true)], args := [d1, d2] }
  | _ => none }
def usersManyRow : OpenClaim := { program := "ytgfpcjieonniiaa", sum := "349c66996a6a08e0dea977bd26069626704ba3edaf4c54f45446102c05784c49", func := "escutcheon/escutcheonlaw14.UsersMany", spec := "usersMany", inPlace := ["sync/atomic.AddInt64", "sync/atomic.StoreInt64"], unfollowed := true, recurses := true, apart := false }
def UsersManySaid : Prop := usersManyRow.holds Try.pinned (OpenSpec.ofChange usersManySpec)

/-- ITS FALSE NEIGHBOUR: 'it returns false'. Refute it at one input. -/
def usersManyWrong : ChangeSpec := { name := "usersMany", fn := fun _ => fun
  | [d1, d2] => { results := [.lit (.bool false)], args := [d1, d2] }
  | _ => none }
def UsersManyWrongFalsely : Prop := usersManyRow.holds Try.pinned (OpenSpec.ofChange usersManyWrong)

/- THE SECOND FORM. 'bulk': how many values and letters a reading holds, each counted each time it is reached (what is shared counts as often as it is met; a slice's spare places count too). A statement '..UptoSaid' is the law's where the arguments, and the package variables that the reading takes, are together of bulk at most 1048576: NARROWER than '..Said'. Prove '..Said' where nothing that the law and all that it calls make is longer than what came in: it says more and counts as full. Else prove '..UptoSaid'. A law counts once. -/
mutual
def uptoBulk {H : Type} : DataW H → Nat
  | .lit (.string bytes) => bytes.length + 1
  | .lit _ => 1
  | .nil => 1
  | .ptr d => uptoBulk d + 1
  | .slice elems spare => uptoBulkAll elems + uptoBulkAll spare + 1
  | .agg parts => uptoBulkAll parts + 1
  | .iface _ d => uptoBulk d + 1
  | .map entries => uptoBulkEntries entries + 1
  | .held _ => 1
def uptoBulkAll {H : Type} : List (DataW H) → Nat
  | [] => 0
  | d :: r => uptoBulk d + uptoBulkAll r
def uptoBulkEntries {H : Type} : List (Lit × DataW H) → Nat
  | [] => 0
  | x :: r => uptoBulkEntry x + uptoBulkEntries r
def uptoBulkEntry {H : Type} : Lit × DataW H → Nat
  | (.string bytes, d) => bytes.length + uptoBulk d + 1
  | (_, d) => uptoBulk d + 1
 end
def uptoSmall : (H : Type) → List (DataW H) → Bool := fun _ ds => decide (uptoBulkAll ds ≤ 1048576)
def OpenSpec.upto (s : _root_.Go.ChangeSpec) : _root_.Go.OpenSpec := { _root_.Go.OpenSpec.ofChange s with cond := some uptoSmall }

/-- 'escutcheonlaw14.UsersApart', WHERE WHAT IT READS IS OF BULK AT MOST 1048576: true; the input reads as it did. -/
def usersApartUptoRow : OpenClaim := { program := "ytgfpcjieonniiaa", sum := "349c66996a6a08e0dea977bd26069626704ba3edaf4c54f45446102c05784c49", func := "escutcheon/escutcheonlaw14.UsersApart", spec := "usersApart", inPlace := ["sync/atomic.AddInt64", "sync/atomic.StoreInt64", "sync/atomic.LoadInt64"], apart := false, narrowed := true }
def UsersApartUptoSaid : Prop := usersApartUptoRow.holds Try.pinned (OpenSpec.upto usersApartSpec)

/-- 'escutcheonlaw14.UsersLock', WHERE WHAT IT READS IS OF BULK AT MOST 1048576: true; the input reads as it did. -/
def usersLockUptoRow : OpenClaim := { program := "ytgfpcjieonniiaa", sum := "349c66996a6a08e0dea977bd26069626704ba3edaf4c54f45446102c05784c49", func := "escutcheon/escutcheonlaw14.UsersLock", spec := "usersLock", inPlace := ["sync/atomic.AddInt64", "sync/atomic.StoreInt64", "sync/atomic.LoadInt64"], apart := false, narrowed := true }
def UsersLockUptoSaid : Prop := usersLockUptoRow.holds Try.pinned (OpenSpec.upto usersLockSpec)

/-- 'escutcheonlaw14.UsersNone', WHERE WHAT IT READS IS OF BULK AT MOST 1048576: true; the input reads as it did. -/
def usersNoneUptoRow : OpenClaim := { program := "ytgfpcjieonniiaa", sum := "349c66996a6a08e0dea977bd26069626704ba3edaf4c54f45446102c05784c49", func := "escutcheon/escutcheonlaw14.UsersNone", spec := "usersNone", inPlace := ["sync/atomic.AddInt64", "sync/atomic.StoreInt64", "sync/atomic.LoadInt64"], apart := false, narrowed := true }
def UsersNoneUptoSaid : Prop := usersNoneUptoRow.holds Try.pinned (OpenSpec.upto usersNoneSpec)

/-- 'escutcheonlaw14.UsersMany', WHERE WHAT IT READS IS OF BULK AT MOST 1048576: true; the input reads as it did. -/
def usersManyUptoRow : OpenClaim := { program := "ytgfpcjieonniiaa", sum := "349c66996a6a08e0dea977bd26069626704ba3edaf4c54f45446102c05784c49", func := "escutcheon/escutcheonlaw14.UsersMany", spec := "usersMany", inPlace := ["sync/atomic.AddInt64", "sync/atomic.StoreInt64"], unfollowed := true, recurses := true, apart := false, narrowed := true }
def UsersManyUptoSaid : Prop := usersManyUptoRow.holds Try.pinned (OpenSpec.upto usersManySpec)

end Rows
end Go.Proofs.Ytgfpcjieonniiaa
