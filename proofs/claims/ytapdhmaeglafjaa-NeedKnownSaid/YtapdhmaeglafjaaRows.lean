/-
  No cell of these rows narrows 'for every input' (looked for: loops, veiled, ifaces, maps, wideKeys, modest, calm, conditions, laid).
  DERIVED. THE GIVEN ROWS OF THIS SEAT. 8 by the template 'for every input the law returns true; each argument reads behind the call as it read before'; 0 by the template 'total and deterministic' (their statements: YtapdhmaeglafjaaTotals.lean).
  GIVEN WITH THE SEED: the statements are not yours to turn. If you find one false, say at which input.
  Laid BY PROGRAM, IN A SANDBOX (cutbox-rows.mjs): the forced cells as the released guide's own fill.sh prints them over the translation c3bdc6735126aa04… (all of the seat's roots in one cut). By AI agents, Wed Nov 11 2026. No macro, syntax, notation, axiom, sorry.
-/
import Derived.Test.YtapdhmaeglafjaaChecked
import GoSem.Claim
import GoSem.ClaimJoined
import GoSem.ClaimMapViews
import Derived.JoinedTies
import Derived.KernelRfl
namespace Go.Proofs.Ytapdhmaeglafjaa
/- THE CELL 'sum', in the pinned program and in every row, IS THE sha256 OF THE DUMP (.gsa) THAT YtapdhmaeglafjaaProg.lean LOADS. Nothing in Lean hashes anything: it is a label: what it is worth is what the hold of that sum in a sandbox is worth. -/
noncomputable def Try.pinned : Pinned := { name := "ytapdhmaeglafjaa", sum := "c3bdc6735126aa045647beff5086e3c7ce63c616ee4fb6958fdfd5bd2e14f608", checked := Try.checked }
namespace Rows
def none {H : Type} : Left H := { results := [], args := [] }

/-- 'spinneylaw12.NeedLeast': WHATEVER THE INPUT: true; the input reads as it did. -/
def needLeastSpec : ChangeSpec := { name := "needLeast", fn := fun _ => fun
  | [d1, d2, d3] => { results := [.lit (.bool true)], args := [d1, d2, d3] }
  | _ => none }
def needLeastRow : OpenClaim := { program := "ytapdhmaeglafjaa", sum := "c3bdc6735126aa045647beff5086e3c7ce63c616ee4fb6958fdfd5bd2e14f608", func := "spinney/spinneylaw12.NeedLeast", spec := "needLeast", unfollowed := true, recurses := true, apart := false }
def NeedLeastSaid : Prop := needLeastRow.holds Try.pinned (OpenSpec.ofChange needLeastSpec)

/-- ITS FALSE NEIGHBOUR: 'it returns false'. Refute it at one input. -/
def needLeastWrong : ChangeSpec := { name := "needLeast", fn := fun _ => fun
  | [d1, d2, d3] => { results := [.lit (.bool false)], args := [d1, d2, d3] }
  | _ => none }
def NeedLeastWrongFalsely : Prop := needLeastRow.holds Try.pinned (OpenSpec.ofChange needLeastWrong)

/-- 'spinneylaw12.NeedMoves': WHATEVER THE INPUT: true; the input reads as it did. -/
def needMovesSpec : ChangeSpec := { name := "needMoves", fn := fun _ => fun
  | [d1, d2, d3] => { results := [.lit (.bool true)], args := [d1, d2, d3] }
  | _ => none }
def needMovesRow : OpenClaim := { program := "ytapdhmaeglafjaa", sum := "c3bdc6735126aa045647beff5086e3c7ce63c616ee4fb6958fdfd5bd2e14f608", func := "spinney/spinneylaw12.NeedMoves", spec := "needMoves", unfollowed := true, recurses := true, apart := false }
def NeedMovesSaid : Prop := needMovesRow.holds Try.pinned (OpenSpec.ofChange needMovesSpec)

/-- ITS FALSE NEIGHBOUR: 'it returns false'. Refute it at one input. -/
def needMovesWrong : ChangeSpec := { name := "needMoves", fn := fun _ => fun
  | [d1, d2, d3] => { results := [.lit (.bool false)], args := [d1, d2, d3] }
  | _ => none }
def NeedMovesWrongFalsely : Prop := needMovesRow.holds Try.pinned (OpenSpec.ofChange needMovesWrong)

/-- 'spinneylaw12.NeedApart': WHATEVER THE INPUT: true; the input reads as it did. -/
def needApartSpec : ChangeSpec := { name := "needApart", fn := fun _ => fun
  | [d1, d2, d3] => { results := [.lit (.bool true)], args := [d1, d2, d3] }
  | _ => none }
def needApartRow : OpenClaim := { program := "ytapdhmaeglafjaa", sum := "c3bdc6735126aa045647beff5086e3c7ce63c616ee4fb6958fdfd5bd2e14f608", func := "spinney/spinneylaw12.NeedApart", spec := "needApart", unfollowed := true, recurses := true, apart := false }
def NeedApartSaid : Prop := needApartRow.holds Try.pinned (OpenSpec.ofChange needApartSpec)

/-- ITS FALSE NEIGHBOUR: 'it returns false'. Refute it at one input. -/
def needApartWrong : ChangeSpec := { name := "needApart", fn := fun _ => fun
  | [d1, d2, d3] => { results := [.lit (.bool false)], args := [d1, d2, d3] }
  | _ => none }
def NeedApartWrongFalsely : Prop := needApartRow.holds Try.pinned (OpenSpec.ofChange needApartWrong)

/-- 'spinneylaw12.NeedLists': WHATEVER THE INPUT: true; the input reads as it did. -/
def needListsSpec : ChangeSpec := { name := "needLists", fn := fun _ => fun
  | [d1, d2] => { results := [.lit (.bool true)], args := [d1, d2] }
  | _ => none }
def needListsRow : OpenClaim := { program := "ytapdhmaeglafjaa", sum := "c3bdc6735126aa045647beff5086e3c7ce63c616ee4fb6958fdfd5bd2e14f608", func := "spinney/spinneylaw12.NeedLists", spec := "needLists", unfollowed := true, recurses := true, apart := false }
def NeedListsSaid : Prop := needListsRow.holds Try.pinned (OpenSpec.ofChange needListsSpec)

/-- ITS FALSE NEIGHBOUR: 'it returns false'. Refute it at one input. -/
def needListsWrong : ChangeSpec := { name := "needLists", fn := fun _ => fun
  | [d1, d2] => { results := [.lit (.bool false)], args := [d1, d2] }
  | _ => none }
def NeedListsWrongFalsely : Prop := needListsRow.holds Try.pinned (OpenSpec.ofChange needListsWrong)

/-- 'spinneylaw12.NeedAll': WHATEVER THE INPUT: true; the input reads as it did. -/
def needAllSpec : ChangeSpec := { name := "needAll", fn := fun _ => fun
  | [d1, d2] => { results := [.lit (.bool true)], args := [d1, d2] }
  | _ => none }
def needAllRow : OpenClaim := { program := "ytapdhmaeglafjaa", sum := "c3bdc6735126aa045647beff5086e3c7ce63c616ee4fb6958fdfd5bd2e14f608", func := "spinney/spinneylaw12.NeedAll", spec := "needAll", unfollowed := true, recurses := true, apart := false }
def NeedAllSaid : Prop := needAllRow.holds Try.pinned (OpenSpec.ofChange needAllSpec)

/-- ITS FALSE NEIGHBOUR: 'it returns false'. Refute it at one input. -/
def needAllWrong : ChangeSpec := { name := "needAll", fn := fun _ => fun
  | [d1, d2] => { results := [.lit (.bool false)], args := [d1, d2] }
  | _ => none }
def NeedAllWrongFalsely : Prop := needAllRow.holds Try.pinned (OpenSpec.ofChange needAllWrong)

/-- 'spinneylaw12.NeedSplits': WHATEVER THE INPUT: true; the input reads as it did. -/
def needSplitsSpec : ChangeSpec := { name := "needSplits", fn := fun _ => fun
  | [d1, d2] => { results := [.lit (.bool true)], args := [d1, d2] }
  | _ => none }
def needSplitsRow : OpenClaim := { program := "ytapdhmaeglafjaa", sum := "c3bdc6735126aa045647beff5086e3c7ce63c616ee4fb6958fdfd5bd2e14f608", func := "spinney/spinneylaw12.NeedSplits", spec := "needSplits", unfollowed := true, recurses := true, apart := false }
def NeedSplitsSaid : Prop := needSplitsRow.holds Try.pinned (OpenSpec.ofChange needSplitsSpec)

/-- ITS FALSE NEIGHBOUR: 'it returns false'. Refute it at one input. -/
def needSplitsWrong : ChangeSpec := { name := "needSplits", fn := fun _ => fun
  | [d1, d2] => { results := [.lit (.bool false)], args := [d1, d2] }
  | _ => none }
def NeedSplitsWrongFalsely : Prop := needSplitsRow.holds Try.pinned (OpenSpec.ofChange needSplitsWrong)

/-- 'spinneylaw12.NeedEnough': WHATEVER THE INPUT: true; the input reads as it did. -/
def needEnoughSpec : ChangeSpec := { name := "needEnough", fn := fun _ => fun
  | [d1, d2] => { results := [.lit (.bool true)], args := [d1, d2] }
  | _ => none }
def needEnoughRow : OpenClaim := { program := "ytapdhmaeglafjaa", sum := "c3bdc6735126aa045647beff5086e3c7ce63c616ee4fb6958fdfd5bd2e14f608", func := "spinney/spinneylaw12.NeedEnough", spec := "needEnough", unfollowed := true, recurses := true, apart := false }
def NeedEnoughSaid : Prop := needEnoughRow.holds Try.pinned (OpenSpec.ofChange needEnoughSpec)

/-- ITS FALSE NEIGHBOUR: 'it returns false'. Refute it at one input. -/
def needEnoughWrong : ChangeSpec := { name := "needEnough", fn := fun _ => fun
  | [d1, d2] => { results := [.lit (.bool false)], args := [d1, d2] }
  | _ => none }
def NeedEnoughWrongFalsely : Prop := needEnoughRow.holds Try.pinned (OpenSpec.ofChange needEnoughWrong)

/-- 'spinneylaw12.NeedKnown': WHATEVER THE INPUT: true; the input reads as it did. -/
def needKnownSpec : ChangeSpec := { name := "needKnown", fn := fun _ => fun
  | [] => { results := [.lit (.bool true)], args := [] }
  | _ => none }
def needKnownRow : OpenClaim := { program := "ytapdhmaeglafjaa", sum := "c3bdc6735126aa045647beff5086e3c7ce63c616ee4fb6958fdfd5bd2e14f608", func := "spinney/spinneylaw12.NeedKnown", spec := "needKnown", unfollowed := true, recurses := true, apart := false }
def NeedKnownSaid : Prop := needKnownRow.holds Try.pinned (OpenSpec.ofChange needKnownSpec)

/-- ITS FALSE NEIGHBOUR: 'it returns false'. Refute it at one input. -/
def needKnownWrong : ChangeSpec := { name := "needKnown", fn := fun _ => fun
  | [] => { results := [.lit (.bool false)], args := [] }
  | _ => none }
def NeedKnownWrongFalsely : Prop := needKnownRow.holds Try.pinned (OpenSpec.ofChange needKnownWrong)

/- THE SECOND FORM. 'bulk': how many values and letters a reading holds, each counted each time it is reached (what is shared counts as often as it is met; a slice's spare places count too). A statement '..UptoSaid' is the law's where the arguments, and the package variables that the reading takes, are together of bulk at most 1048576: NARROWER than '..Said'. Prove '..Said' where nothing that the law and all that it calls make is longer than what came in: it says more and counts as full. Else prove '..UptoSaid'. A law counts once. -/
mutual
def uptoBulk {H : Type} : DataW H → Nat
  | .lit (.string bytes) => bytes.length + 1
  | .lit _ => 1
  | .nil => 1
  | .ptr d => uptoBulk d + 1
  | .slice elems spare => uptoBulkAll elems + uptoBulkAll spare + 1
  | .agg parts => uptoBulkAll parts + 1
  | .iface _ d => uptoBulk d + 1
  | .map entries => uptoBulkEntries entries + 1
  | .held _ => 1
def uptoBulkAll {H : Type} : List (DataW H) → Nat
  | [] => 0
  | d :: r => uptoBulk d + uptoBulkAll r
def uptoBulkEntries {H : Type} : List (Lit × DataW H) → Nat
  | [] => 0
  | x :: r => uptoBulkEntry x + uptoBulkEntries r
def uptoBulkEntry {H : Type} : Lit × DataW H → Nat
  | (.string bytes, d) => bytes.length + uptoBulk d + 1
  | (_, d) => uptoBulk d + 1
 end
def uptoSmall : (H : Type) → List (DataW H) → Bool := fun _ ds => decide (uptoBulkAll ds ≤ 1048576)
def OpenSpec.upto (s : _root_.Go.ChangeSpec) : _root_.Go.OpenSpec := { _root_.Go.OpenSpec.ofChange s with cond := some uptoSmall }

/-- 'spinneylaw12.NeedLeast', WHERE WHAT IT READS IS OF BULK AT MOST 1048576: true; the input reads as it did. -/
def needLeastUptoRow : OpenClaim := { program := "ytapdhmaeglafjaa", sum := "c3bdc6735126aa045647beff5086e3c7ce63c616ee4fb6958fdfd5bd2e14f608", func := "spinney/spinneylaw12.NeedLeast", spec := "needLeast", unfollowed := true, recurses := true, apart := false, narrowed := true }
def NeedLeastUptoSaid : Prop := needLeastUptoRow.holds Try.pinned (OpenSpec.upto needLeastSpec)

/-- 'spinneylaw12.NeedMoves', WHERE WHAT IT READS IS OF BULK AT MOST 1048576: true; the input reads as it did. -/
def needMovesUptoRow : OpenClaim := { program := "ytapdhmaeglafjaa", sum := "c3bdc6735126aa045647beff5086e3c7ce63c616ee4fb6958fdfd5bd2e14f608", func := "spinney/spinneylaw12.NeedMoves", spec := "needMoves", unfollowed := true, recurses := true, apart := false, narrowed := true }
def NeedMovesUptoSaid : Prop := needMovesUptoRow.holds Try.pinned (OpenSpec.upto needMovesSpec)

/-- 'spinneylaw12.NeedApart', WHERE WHAT IT READS IS OF BULK AT MOST 1048576: true; the input reads as it did. -/
def needApartUptoRow : OpenClaim := { program := "ytapdhmaeglafjaa", sum := "c3bdc6735126aa045647beff5086e3c7ce63c616ee4fb6958fdfd5bd2e14f608", func := "spinney/spinneylaw12.NeedApart", spec := "needApart", unfollowed := true, recurses := true, apart := false, narrowed := true }
def NeedApartUptoSaid : Prop := needApartUptoRow.holds Try.pinned (OpenSpec.upto needApartSpec)

/-- 'spinneylaw12.NeedLists', WHERE WHAT IT READS IS OF BULK AT MOST 1048576: true; the input reads as it did. -/
def needListsUptoRow : OpenClaim := { program := "ytapdhmaeglafjaa", sum := "c3bdc6735126aa045647beff5086e3c7ce63c616ee4fb6958fdfd5bd2e14f608", func := "spinney/spinneylaw12.NeedLists", spec := "needLists", unfollowed := true, recurses := true, apart := false, narrowed := true }
def NeedListsUptoSaid : Prop := needListsUptoRow.holds Try.pinned (OpenSpec.upto needListsSpec)

/-- 'spinneylaw12.NeedAll', WHERE WHAT IT READS IS OF BULK AT MOST 1048576: true; the input reads as it did. -/
def needAllUptoRow : OpenClaim := { program := "ytapdhmaeglafjaa", sum := "c3bdc6735126aa045647beff5086e3c7ce63c616ee4fb6958fdfd5bd2e14f608", func := "spinney/spinneylaw12.NeedAll", spec := "needAll", unfollowed := true, recurses := true, apart := false, narrowed := true }
def NeedAllUptoSaid : Prop := needAllUptoRow.holds Try.pinned (OpenSpec.upto needAllSpec)

/-- 'spinneylaw12.NeedSplits', WHERE WHAT IT READS IS OF BULK AT MOST 1048576: true; the input reads as it did. -/
def needSplitsUptoRow : OpenClaim := { program := "ytapdhmaeglafjaa", sum := "c3bdc6735126aa045647beff5086e3c7ce63c616ee4fb6958fdfd5bd2e14f608", func := "spinney/spinneylaw12.NeedSplits", spec := "needSplits", unfollowed := true, recurses := true, apart := false, narrowed := true }
def NeedSplitsUptoSaid : Prop := needSplitsUptoRow.holds Try.pinned (OpenSpec.upto needSplitsSpec)

/-- 'spinneylaw12.NeedEnough', WHERE WHAT IT READS IS OF BULK AT MOST 1048576: true; the input reads as it did. -/
def needEnoughUptoRow : OpenClaim := { program := "ytapdhmaeglafjaa", sum := "c3bdc6735126aa045647beff5086e3c7ce63c616ee4fb6958fdfd5bd2e14f608", func := "spinney/spinneylaw12.NeedEnough", spec := "needEnough", unfollowed := true, recurses := true, apart := false, narrowed := true }
def NeedEnoughUptoSaid : Prop := needEnoughUptoRow.holds Try.pinned (OpenSpec.upto needEnoughSpec)

/-- 'spinneylaw12.NeedKnown', WHERE WHAT IT READS IS OF BULK AT MOST 1048576: true; the input reads as it did. -/
def needKnownUptoRow : OpenClaim := { program := "ytapdhmaeglafjaa", sum := "c3bdc6735126aa045647beff5086e3c7ce63c616ee4fb6958fdfd5bd2e14f608", func := "spinney/spinneylaw12.NeedKnown", spec := "needKnown", unfollowed := true, recurses := true, apart := false, narrowed := true }
def NeedKnownUptoSaid : Prop := needKnownUptoRow.holds Try.pinned (OpenSpec.upto needKnownSpec)

end Rows
end Go.Proofs.Ytapdhmaeglafjaa
