/-
  No cell of these rows narrows 'for every input' (looked for: loops, veiled, ifaces, maps, wideKeys, modest, calm, conditions, laid).
  DERIVED. THE GIVEN ROWS OF THIS SEAT. 6 by the template 'for every input the law returns true; each argument reads behind the call as it read before'; 0 by the template 'total and deterministic' (their statements: YtgmbdhpanhkfhaaTotals.lean).
  GIVEN WITH THE SEED: the statements are not yours to turn. If you find one false, say at which input.
  Laid BY PROGRAM, IN A SANDBOX (cutbox-rows.mjs): the forced cells as the released guide's own fill.sh prints them over the translation 5aed8df70a46eedf… (all of the seat's roots in one cut). By AI agents, Wed Nov 11 2026. No macro, syntax, notation, axiom, sorry.
-/
import Derived.Test.YtgmbdhpanhkfhaaChecked
import GoSem.Claim
import GoSem.ClaimJoined
import GoSem.ClaimMapViews
import Derived.JoinedTies
import Derived.KernelRfl
namespace Go.Proofs.Ytgmbdhpanhkfhaa
/- THE CELL 'sum', in the pinned program and in every row, IS THE sha256 OF THE DUMP (.gsa) THAT YtgmbdhpanhkfhaaProg.lean LOADS. Nothing in Lean hashes anything: it is a label: what it is worth is what the hold of that sum in a sandbox is worth. -/
noncomputable def Try.pinned : Pinned := { name := "ytgmbdhpanhkfhaa", sum := "5aed8df70a46eedfa37962a829d436db61db76ccbbf3773186835f3ecf2b9b43", checked := Try.checked }
namespace Rows
def none {H : Type} : Left H := { results := [], args := [] }

/-- 'spinneylaw04.CompactApart': WHATEVER THE INPUT: true; the input reads as it did. -/
def compactApartSpec : ChangeSpec := { name := "compactApart", fn := fun _ => fun
  | [d1, d2] => { results := [.lit (.bool true)], args := [d1, d2] }
  | _ => none }
def compactApartRow : OpenClaim := { program := "ytgmbdhpanhkfhaa", sum := "5aed8df70a46eedfa37962a829d436db61db76ccbbf3773186835f3ecf2b9b43", func := "spinney/spinneylaw04.CompactApart", spec := "compactApart", apart := false }
def CompactApartSaid : Prop := compactApartRow.holds Try.pinned (OpenSpec.ofChange compactApartSpec)

/-- ITS FALSE NEIGHBOUR: 'it returns false'. Refute it at one input. -/
def compactApartWrong : ChangeSpec := { name := "compactApart", fn := fun _ => fun
  | [d1, d2] => { results := [.lit (.bool false)], args := [d1, d2] }
  | _ => none }
def CompactApartWrongFalsely : Prop := compactApartRow.holds Try.pinned (OpenSpec.ofChange compactApartWrong)

/-- 'spinneylaw04.CompactPuts': WHATEVER THE INPUT: true; the input reads as it did. -/
def compactPutsSpec : ChangeSpec := { name := "compactPuts", fn := fun _ => fun
  | [d1, d2, d3] => { results := [.lit (.bool true)], args := [d1, d2, d3] }
  | _ => none }
def compactPutsRow : OpenClaim := { program := "ytgmbdhpanhkfhaa", sum := "5aed8df70a46eedfa37962a829d436db61db76ccbbf3773186835f3ecf2b9b43", func := "spinney/spinneylaw04.CompactPuts", spec := "compactPuts", apart := false }
def CompactPutsSaid : Prop := compactPutsRow.holds Try.pinned (OpenSpec.ofChange compactPutsSpec)

/-- ITS FALSE NEIGHBOUR: 'it returns false'. Refute it at one input. -/
def compactPutsWrong : ChangeSpec := { name := "compactPuts", fn := fun _ => fun
  | [d1, d2, d3] => { results := [.lit (.bool false)], args := [d1, d2, d3] }
  | _ => none }
def CompactPutsWrongFalsely : Prop := compactPutsRow.holds Try.pinned (OpenSpec.ofChange compactPutsWrong)

/-- 'spinneylaw04.CompactOnce': WHATEVER THE INPUT: true; the input reads as it did. -/
def compactOnceSpec : ChangeSpec := { name := "compactOnce", fn := fun _ => fun
  | [d] => { results := [.lit (.bool true)], args := [d] }
  | _ => none }
def compactOnceRow : OpenClaim := { program := "ytgmbdhpanhkfhaa", sum := "5aed8df70a46eedfa37962a829d436db61db76ccbbf3773186835f3ecf2b9b43", func := "spinney/spinneylaw04.CompactOnce", spec := "compactOnce", apart := false }
def CompactOnceSaid : Prop := compactOnceRow.holds Try.pinned (OpenSpec.ofChange compactOnceSpec)

/-- ITS FALSE NEIGHBOUR: 'it returns false'. Refute it at one input. -/
def compactOnceWrong : ChangeSpec := { name := "compactOnce", fn := fun _ => fun
  | [d] => { results := [.lit (.bool false)], args := [d] }
  | _ => none }
def CompactOnceWrongFalsely : Prop := compactOnceRow.holds Try.pinned (OpenSpec.ofChange compactOnceWrong)

/-- 'spinneylaw04.CompactKnown': WHATEVER THE INPUT: true; the input reads as it did. -/
def compactKnownSpec : ChangeSpec := { name := "compactKnown", fn := fun _ => fun
  | [] => { results := [.lit (.bool true)], args := [] }
  | _ => none }
def compactKnownRow : OpenClaim := { program := "ytgmbdhpanhkfhaa", sum := "5aed8df70a46eedfa37962a829d436db61db76ccbbf3773186835f3ecf2b9b43", func := "spinney/spinneylaw04.CompactKnown", spec := "compactKnown", apart := false }
def CompactKnownSaid : Prop := compactKnownRow.holds Try.pinned (OpenSpec.ofChange compactKnownSpec)

/-- ITS FALSE NEIGHBOUR: 'it returns false'. Refute it at one input. -/
def compactKnownWrong : ChangeSpec := { name := "compactKnown", fn := fun _ => fun
  | [] => { results := [.lit (.bool false)], args := [] }
  | _ => none }
def CompactKnownWrongFalsely : Prop := compactKnownRow.holds Try.pinned (OpenSpec.ofChange compactKnownWrong)

/-- 'spinneylaw04.CompactGets': WHATEVER THE INPUT: true; the input reads as it did. -/
def compactGetsSpec : ChangeSpec := { name := "compactGets", fn := fun _ => fun
  | [d1, d2] => { results := [.lit (.bool true)], args := [d1, d2] }
  | _ => none }
def compactGetsRow : OpenClaim := { program := "ytgmbdhpanhkfhaa", sum := "5aed8df70a46eedfa37962a829d436db61db76ccbbf3773186835f3ecf2b9b43", func := "spinney/spinneylaw04.CompactGets", spec := "compactGets", apart := false }
def CompactGetsSaid : Prop := compactGetsRow.holds Try.pinned (OpenSpec.ofChange compactGetsSpec)

/-- ITS FALSE NEIGHBOUR: 'it returns false'. Refute it at one input. -/
def compactGetsWrong : ChangeSpec := { name := "compactGets", fn := fun _ => fun
  | [d1, d2] => { results := [.lit (.bool false)], args := [d1, d2] }
  | _ => none }
def CompactGetsWrongFalsely : Prop := compactGetsRow.holds Try.pinned (OpenSpec.ofChange compactGetsWrong)

/-- 'spinneylaw04.CompactBack': WHATEVER THE INPUT: true; the input reads as it did. -/
def compactBackSpec : ChangeSpec := { name := "compactBack", fn := fun _ => fun
  | [d1, d2, d3] => { results := [.lit (.bool true)], args := [d1, d2, d3] }
  | _ => none }
def compactBackRow : OpenClaim := { program := "ytgmbdhpanhkfhaa", sum := "5aed8df70a46eedfa37962a829d436db61db76ccbbf3773186835f3ecf2b9b43", func := "spinney/spinneylaw04.CompactBack", spec := "compactBack", apart := false }
def CompactBackSaid : Prop := compactBackRow.holds Try.pinned (OpenSpec.ofChange compactBackSpec)

/-- ITS FALSE NEIGHBOUR: 'it returns false'. Refute it at one input. -/
def compactBackWrong : ChangeSpec := { name := "compactBack", fn := fun _ => fun
  | [d1, d2, d3] => { results := [.lit (.bool false)], args := [d1, d2, d3] }
  | _ => none }
def CompactBackWrongFalsely : Prop := compactBackRow.holds Try.pinned (OpenSpec.ofChange compactBackWrong)

/- THE SECOND FORM. 'bulk': how many values and letters a reading holds, each counted each time it is reached (what is shared counts as often as it is met; a slice's spare places count too). A statement '..UptoSaid' is the law's where the arguments, and the package variables that the reading takes, are together of bulk at most 1048576: NARROWER than '..Said'. Prove '..Said' where nothing that the law and all that it calls make is longer than what came in: it says more and counts as full. Else prove '..UptoSaid'. A law counts once. -/
mutual
def uptoBulk {H : Type} : DataW H → Nat
  | .lit (.string bytes) => bytes.length + 1
  | .lit _ => 1
  | .nil => 1
  | .ptr d => uptoBulk d + 1
  | .slice elems spare => uptoBulkAll elems + uptoBulkAll spare + 1
  | .agg parts => uptoBulkAll parts + 1
  | .iface _ d => uptoBulk d + 1
  | .map entries => uptoBulkEntries entries + 1
  | .held _ => 1
def uptoBulkAll {H : Type} : List (DataW H) → Nat
  | [] => 0
  | d :: r => uptoBulk d + uptoBulkAll r
def uptoBulkEntries {H : Type} : List (Lit × DataW H) → Nat
  | [] => 0
  | x :: r => uptoBulkEntry x + uptoBulkEntries r
def uptoBulkEntry {H : Type} : Lit × DataW H → Nat
  | (.string bytes, d) => bytes.length + uptoBulk d + 1
  | (_, d) => uptoBulk d + 1
 end
def uptoSmall : (H : Type) → List (DataW H) → Bool := fun _ ds => decide (uptoBulkAll ds ≤ 1048576)
def OpenSpec.upto (s : _root_.Go.ChangeSpec) : _root_.Go.OpenSpec := { _root_.Go.OpenSpec.ofChange s with cond := some uptoSmall }

/-- 'spinneylaw04.CompactApart', WHERE WHAT IT READS IS OF BULK AT MOST 1048576: true; the input reads as it did. -/
def compactApartUptoRow : OpenClaim := { program := "ytgmbdhpanhkfhaa", sum := "5aed8df70a46eedfa37962a829d436db61db76ccbbf3773186835f3ecf2b9b43", func := "spinney/spinneylaw04.CompactApart", spec := "compactApart", apart := false, narrowed := true }
def CompactApartUptoSaid : Prop := compactApartUptoRow.holds Try.pinned (OpenSpec.upto compactApartSpec)

/-- 'spinneylaw04.CompactPuts', WHERE WHAT IT READS IS OF BULK AT MOST 1048576: true; the input reads as it did. -/
def compactPutsUptoRow : OpenClaim := { program := "ytgmbdhpanhkfhaa", sum := "5aed8df70a46eedfa37962a829d436db61db76ccbbf3773186835f3ecf2b9b43", func := "spinney/spinneylaw04.CompactPuts", spec := "compactPuts", apart := false, narrowed := true }
def CompactPutsUptoSaid : Prop := compactPutsUptoRow.holds Try.pinned (OpenSpec.upto compactPutsSpec)

/-- 'spinneylaw04.CompactOnce', WHERE WHAT IT READS IS OF BULK AT MOST 1048576: true; the input reads as it did. -/
def compactOnceUptoRow : OpenClaim := { program := "ytgmbdhpanhkfhaa", sum := "5aed8df70a46eedfa37962a829d436db61db76ccbbf3773186835f3ecf2b9b43", func := "spinney/spinneylaw04.CompactOnce", spec := "compactOnce", apart := false, narrowed := true }
def CompactOnceUptoSaid : Prop := compactOnceUptoRow.holds Try.pinned (OpenSpec.upto compactOnceSpec)

/-- 'spinneylaw04.CompactKnown', WHERE WHAT IT READS IS OF BULK AT MOST 1048576: true; the input reads as it did. -/
def compactKnownUptoRow : OpenClaim := { program := "ytgmbdhpanhkfhaa", sum := "5aed8df70a46eedfa37962a829d436db61db76ccbbf3773186835f3ecf2b9b43", func := "spinney/spinneylaw04.CompactKnown", spec := "compactKnown", apart := false, narrowed := true }
def CompactKnownUptoSaid : Prop := compactKnownUptoRow.holds Try.pinned (OpenSpec.upto compactKnownSpec)

/-- 'spinneylaw04.CompactGets', WHERE WHAT IT READS IS OF BULK AT MOST 1048576: true; the input reads as it did. -/
def compactGetsUptoRow : OpenClaim := { program := "ytgmbdhpanhkfhaa", sum := "5aed8df70a46eedfa37962a829d436db61db76ccbbf3773186835f3ecf2b9b43", func := "spinney/spinneylaw04.CompactGets", spec := "compactGets", apart := false, narrowed := true }
def CompactGetsUptoSaid : Prop := compactGetsUptoRow.holds Try.pinned (OpenSpec.upto compactGetsSpec)

/-- 'spinneylaw04.CompactBack', WHERE WHAT IT READS IS OF BULK AT MOST 1048576: true; the input reads as it did. -/
def compactBackUptoRow : OpenClaim := { program := "ytgmbdhpanhkfhaa", sum := "5aed8df70a46eedfa37962a829d436db61db76ccbbf3773186835f3ecf2b9b43", func := "spinney/spinneylaw04.CompactBack", spec := "compactBack", apart := false, narrowed := true }
def CompactBackUptoSaid : Prop := compactBackUptoRow.holds Try.pinned (OpenSpec.upto compactBackSpec)

end Rows
end Go.Proofs.Ytgmbdhpanhkfhaa
