/-
  No cell of these rows narrows 'for every input' (looked for: loops, veiled, ifaces, maps, wideKeys, modest, calm, conditions, laid).
  DERIVED. THE GIVEN ROWS OF THIS SEAT. 7 by the template 'for every input the law returns true; each argument reads behind the call as it read before'; 0 by the template 'total and deterministic' (their statements: YthmaijmjhfngpaaTotals.lean).
  GIVEN WITH THE SEED: the statements are not yours to turn. If you find one false, say at which input.
  Laid BY PROGRAM, IN A SANDBOX (cutbox-rows.mjs): the forced cells as the released guide's own fill.sh prints them over the translation d766c9178e9023a5… (all of the seat's roots in one cut). By AI agents, Wed Nov 11 2026. No macro, syntax, notation, axiom, sorry.
-/
import Derived.Test.YthmaijmjhfngpaaChecked
import GoSem.Claim
import GoSem.ClaimJoined
import GoSem.ClaimMapViews
import Derived.JoinedTies
import Derived.KernelRfl
namespace Go.Proofs.Ythmaijmjhfngpaa
/- THE CELL 'sum', in the pinned program and in every row, IS THE sha256 OF THE DUMP (.gsa) THAT YthmaijmjhfngpaaProg.lean LOADS. Nothing in Lean hashes anything: it is a label: what it is worth is what the hold of that sum in a sandbox is worth. -/
noncomputable def Try.pinned : Pinned := { name := "ythmaijmjhfngpaa", sum := "d766c9178e9023a587c84181d2af8ee7db46f559656a53e1fabc391e1a4466a6", checked := Try.checked }
namespace Rows
def none {H : Type} : Left H := { results := [], args := [] }

/-- 'spinneylaw10.TargetExpands': WHATEVER THE INPUT: true; the input reads as it did. -/
def targetExpandsSpec : ChangeSpec := { name := "targetExpands", fn := fun _ => fun
  | [d1, d2] => { results := [.lit (.bool true)], args := [d1, d2] }
  | _ => none }
def targetExpandsRow : OpenClaim := { program := "ythmaijmjhfngpaa", sum := "d766c9178e9023a587c84181d2af8ee7db46f559656a53e1fabc391e1a4466a6", func := "spinney/spinneylaw10.TargetExpands", spec := "targetExpands", inPlace := ["math/bits.Add64", "math/bits.Sub64"], apart := false }
def TargetExpandsSaid : Prop := targetExpandsRow.holds Try.pinned (OpenSpec.ofChange targetExpandsSpec)

/-- ITS FALSE NEIGHBOUR: 'it returns false'. Refute it at one input. -/
def targetExpandsWrong : ChangeSpec := { name := "targetExpands", fn := fun _ => fun
  | [d1, d2] => { results := [.lit (.bool false)], args := [d1, d2] }
  | _ => none }
def TargetExpandsWrongFalsely : Prop := targetExpandsRow.holds Try.pinned (OpenSpec.ofChange targetExpandsWrong)

/-- 'spinneylaw10.TargetMeets': WHATEVER THE INPUT: true; the input reads as it did. -/
def targetMeetsSpec : ChangeSpec := { name := "targetMeets", fn := fun _ => fun
  | [d1, d2, d3] => { results := [.lit (.bool true)], args := [d1, d2, d3] }
  | _ => none }
def targetMeetsRow : OpenClaim := { program := "ythmaijmjhfngpaa", sum := "d766c9178e9023a587c84181d2af8ee7db46f559656a53e1fabc391e1a4466a6", func := "spinney/spinneylaw10.TargetMeets", spec := "targetMeets", inPlace := ["math/bits.Add64", "math/bits.Sub64"], apart := false }
def TargetMeetsSaid : Prop := targetMeetsRow.holds Try.pinned (OpenSpec.ofChange targetMeetsSpec)

/-- ITS FALSE NEIGHBOUR: 'it returns false'. Refute it at one input. -/
def targetMeetsWrong : ChangeSpec := { name := "targetMeets", fn := fun _ => fun
  | [d1, d2, d3] => { results := [.lit (.bool false)], args := [d1, d2, d3] }
  | _ => none }
def TargetMeetsWrongFalsely : Prop := targetMeetsRow.holds Try.pinned (OpenSpec.ofChange targetMeetsWrong)

/-- 'spinneylaw10.TargetBack': WHATEVER THE INPUT: true; the input reads as it did. -/
def targetBackSpec : ChangeSpec := { name := "targetBack", fn := fun _ => fun
  | [d] => { results := [.lit (.bool true)], args := [d] }
  | _ => none }
def targetBackRow : OpenClaim := { program := "ythmaijmjhfngpaa", sum := "d766c9178e9023a587c84181d2af8ee7db46f559656a53e1fabc391e1a4466a6", func := "spinney/spinneylaw10.TargetBack", spec := "targetBack", inPlace := ["math/bits.Add64", "math/bits.Sub64"], apart := false }
def TargetBackSaid : Prop := targetBackRow.holds Try.pinned (OpenSpec.ofChange targetBackSpec)

/-- ITS FALSE NEIGHBOUR: 'it returns false'. Refute it at one input. -/
def targetBackWrong : ChangeSpec := { name := "targetBack", fn := fun _ => fun
  | [d] => { results := [.lit (.bool false)], args := [d] }
  | _ => none }
def TargetBackWrongFalsely : Prop := targetBackRow.holds Try.pinned (OpenSpec.ofChange targetBackWrong)

/-- 'spinneylaw10.TargetOrder': WHATEVER THE INPUT: true; the input reads as it did. -/
def targetOrderSpec : ChangeSpec := { name := "targetOrder", fn := fun _ => fun
  | [d1, d2] => { results := [.lit (.bool true)], args := [d1, d2] }
  | _ => none }
def targetOrderRow : OpenClaim := { program := "ythmaijmjhfngpaa", sum := "d766c9178e9023a587c84181d2af8ee7db46f559656a53e1fabc391e1a4466a6", func := "spinney/spinneylaw10.TargetOrder", spec := "targetOrder", inPlace := ["math/bits.Add64", "math/bits.Sub64"], apart := false }
def TargetOrderSaid : Prop := targetOrderRow.holds Try.pinned (OpenSpec.ofChange targetOrderSpec)

/-- ITS FALSE NEIGHBOUR: 'it returns false'. Refute it at one input. -/
def targetOrderWrong : ChangeSpec := { name := "targetOrder", fn := fun _ => fun
  | [d1, d2] => { results := [.lit (.bool false)], args := [d1, d2] }
  | _ => none }
def TargetOrderWrongFalsely : Prop := targetOrderRow.holds Try.pinned (OpenSpec.ofChange targetOrderWrong)

/-- 'spinneylaw10.TargetNext': WHATEVER THE INPUT: true; the input reads as it did. -/
def targetNextSpec : ChangeSpec := { name := "targetNext", fn := fun _ => fun
  | [d1, d2, d3] => { results := [.lit (.bool true)], args := [d1, d2, d3] }
  | _ => none }
def targetNextRow : OpenClaim := { program := "ythmaijmjhfngpaa", sum := "d766c9178e9023a587c84181d2af8ee7db46f559656a53e1fabc391e1a4466a6", func := "spinney/spinneylaw10.TargetNext", spec := "targetNext", inPlace := ["math/bits.Add64", "math/bits.Sub64"], named := ["math/bits.divideError", "math/bits.overflowError"], apart := false }
def TargetNextSaid : Prop := targetNextRow.holds Try.pinned (OpenSpec.ofChange targetNextSpec)

/-- ITS FALSE NEIGHBOUR: 'it returns false'. Refute it at one input. -/
def targetNextWrong : ChangeSpec := { name := "targetNext", fn := fun _ => fun
  | [d1, d2, d3] => { results := [.lit (.bool false)], args := [d1, d2, d3] }
  | _ => none }
def TargetNextWrongFalsely : Prop := targetNextRow.holds Try.pinned (OpenSpec.ofChange targetNextWrong)

/-- 'spinneylaw10.TargetKnown': WHATEVER THE INPUT: true; the input reads as it did. -/
def targetKnownSpec : ChangeSpec := { name := "targetKnown", fn := fun _ => fun
  | [] => { results := [.lit (.bool true)], args := [] }
  | _ => none }
def targetKnownRow : OpenClaim := { program := "ythmaijmjhfngpaa", sum := "d766c9178e9023a587c84181d2af8ee7db46f559656a53e1fabc391e1a4466a6", func := "spinney/spinneylaw10.TargetKnown", spec := "targetKnown", inPlace := ["math/bits.Add64", "math/bits.Sub64"], named := ["math/bits.divideError", "math/bits.overflowError"], apart := false }
def TargetKnownSaid : Prop := targetKnownRow.holds Try.pinned (OpenSpec.ofChange targetKnownSpec)

/-- ITS FALSE NEIGHBOUR: 'it returns false'. Refute it at one input. -/
def targetKnownWrong : ChangeSpec := { name := "targetKnown", fn := fun _ => fun
  | [] => { results := [.lit (.bool false)], args := [] }
  | _ => none }
def TargetKnownWrongFalsely : Prop := targetKnownRow.holds Try.pinned (OpenSpec.ofChange targetKnownWrong)

/-- 'spinneylaw10.TargetKept': WHATEVER THE INPUT: true; the input reads as it did. -/
def targetKeptSpec : ChangeSpec := { name := "targetKept", fn := fun _ => fun
  | [d1, d2, d3] => { results := [.lit (.bool true)], args := [d1, d2, d3] }
  | _ => none }
def targetKeptRow : OpenClaim := { program := "ythmaijmjhfngpaa", sum := "d766c9178e9023a587c84181d2af8ee7db46f559656a53e1fabc391e1a4466a6", func := "spinney/spinneylaw10.TargetKept", spec := "targetKept", inPlace := ["math/bits.Add64", "math/bits.Sub64"], named := ["math/bits.divideError", "math/bits.overflowError"], apart := false }
def TargetKeptSaid : Prop := targetKeptRow.holds Try.pinned (OpenSpec.ofChange targetKeptSpec)

/-- ITS FALSE NEIGHBOUR: 'it returns false'. Refute it at one input. -/
def targetKeptWrong : ChangeSpec := { name := "targetKept", fn := fun _ => fun
  | [d1, d2, d3] => { results := [.lit (.bool false)], args := [d1, d2, d3] }
  | _ => none }
def TargetKeptWrongFalsely : Prop := targetKeptRow.holds Try.pinned (OpenSpec.ofChange targetKeptWrong)

/- THE SECOND FORM. 'bulk': how many values and letters a reading holds, each counted each time it is reached (what is shared counts as often as it is met; a slice's spare places count too). A statement '..UptoSaid' is the law's where the arguments, and the package variables that the reading takes, are together of bulk at most 1048576: NARROWER than '..Said'. Prove '..Said' where nothing that the law and all that it calls make is longer than what came in: it says more and counts as full. Else prove '..UptoSaid'. A law counts once. -/
mutual
def uptoBulk {H : Type} : DataW H → Nat
  | .lit (.string bytes) => bytes.length + 1
  | .lit _ => 1
  | .nil => 1
  | .ptr d => uptoBulk d + 1
  | .slice elems spare => uptoBulkAll elems + uptoBulkAll spare + 1
  | .agg parts => uptoBulkAll parts + 1
  | .iface _ d => uptoBulk d + 1
  | .map entries => uptoBulkEntries entries + 1
  | .held _ => 1
def uptoBulkAll {H : Type} : List (DataW H) → Nat
  | [] => 0
  | d :: r => uptoBulk d + uptoBulkAll r
def uptoBulkEntries {H : Type} : List (Lit × DataW H) → Nat
  | [] => 0
  | x :: r => uptoBulkEntry x + uptoBulkEntries r
def uptoBulkEntry {H : Type} : Lit × DataW H → Nat
  | (.string bytes, d) => bytes.length + uptoBulk d + 1
  | (_, d) => uptoBulk d + 1
 end
def uptoSmall : (H : Type) → List (DataW H) → Bool := fun _ ds => decide (uptoBulkAll ds ≤ 1048576)
def OpenSpec.upto (s : _root_.Go.ChangeSpec) : _root_.Go.OpenSpec := { _root_.Go.OpenSpec.ofChange s with cond := some uptoSmall }

/-- 'spinneylaw10.TargetExpands', WHERE WHAT IT READS IS OF BULK AT MOST 1048576: true; the input reads as it did. -/
def targetExpandsUptoRow : OpenClaim := { program := "ythmaijmjhfngpaa", sum := "d766c9178e9023a587c84181d2af8ee7db46f559656a53e1fabc391e1a4466a6", func := "spinney/spinneylaw10.TargetExpands", spec := "targetExpands", inPlace := ["math/bits.Add64", "math/bits.Sub64"], apart := false, narrowed := true }
def TargetExpandsUptoSaid : Prop := targetExpandsUptoRow.holds Try.pinned (OpenSpec.upto targetExpandsSpec)

/-- 'spinneylaw10.TargetMeets', WHERE WHAT IT READS IS OF BULK AT MOST 1048576: true; the input reads as it did. -/
def targetMeetsUptoRow : OpenClaim := { program := "ythmaijmjhfngpaa", sum := "d766c9178e9023a587c84181d2af8ee7db46f559656a53e1fabc391e1a4466a6", func := "spinney/spinneylaw10.TargetMeets", spec := "targetMeets", inPlace := ["math/bits.Add64", "math/bits.Sub64"], apart := false, narrowed := true }
def TargetMeetsUptoSaid : Prop := targetMeetsUptoRow.holds Try.pinned (OpenSpec.upto targetMeetsSpec)

/-- 'spinneylaw10.TargetBack', WHERE WHAT IT READS IS OF BULK AT MOST 1048576: true; the input reads as it did. -/
def targetBackUptoRow : OpenClaim := { program := "ythmaijmjhfngpaa", sum := "d766c9178e9023a587c84181d2af8ee7db46f559656a53e1fabc391e1a4466a6", func := "spinney/spinneylaw10.TargetBack", spec := "targetBack", inPlace := ["math/bits.Add64", "math/bits.Sub64"], apart := false, narrowed := true }
def TargetBackUptoSaid : Prop := targetBackUptoRow.holds Try.pinned (OpenSpec.upto targetBackSpec)

/-- 'spinneylaw10.TargetOrder', WHERE WHAT IT READS IS OF BULK AT MOST 1048576: true; the input reads as it did. -/
def targetOrderUptoRow : OpenClaim := { program := "ythmaijmjhfngpaa", sum := "d766c9178e9023a587c84181d2af8ee7db46f559656a53e1fabc391e1a4466a6", func := "spinney/spinneylaw10.TargetOrder", spec := "targetOrder", inPlace := ["math/bits.Add64", "math/bits.Sub64"], apart := false, narrowed := true }
def TargetOrderUptoSaid : Prop := targetOrderUptoRow.holds Try.pinned (OpenSpec.upto targetOrderSpec)

/-- 'spinneylaw10.TargetNext', WHERE WHAT IT READS IS OF BULK AT MOST 1048576: true; the input reads as it did. -/
def targetNextUptoRow : OpenClaim := { program := "ythmaijmjhfngpaa", sum := "d766c9178e9023a587c84181d2af8ee7db46f559656a53e1fabc391e1a4466a6", func := "spinney/spinneylaw10.TargetNext", spec := "targetNext", inPlace := ["math/bits.Add64", "math/bits.Sub64"], named := ["math/bits.divideError", "math/bits.overflowError"], apart := false, narrowed := true }
def TargetNextUptoSaid : Prop := targetNextUptoRow.holds Try.pinned (OpenSpec.upto targetNextSpec)

/-- 'spinneylaw10.TargetKnown', WHERE WHAT IT READS IS OF BULK AT MOST 1048576: true; the input reads as it did. -/
def targetKnownUptoRow : OpenClaim := { program := "ythmaijmjhfngpaa", sum := "d766c9178e9023a587c84181d2af8ee7db46f559656a53e1fabc391e1a4466a6", func := "spinney/spinneylaw10.TargetKnown", spec := "targetKnown", inPlace := ["math/bits.Add64", "math/bits.Sub64"], named := ["math/bits.divideError", "math/bits.overflowError"], apart := false, narrowed := true }
def TargetKnownUptoSaid : Prop := targetKnownUptoRow.holds Try.pinned (OpenSpec.upto targetKnownSpec)

/-- 'spinneylaw10.TargetKept', WHERE WHAT IT READS IS OF BULK AT MOST 1048576: true; the input reads as it did. -/
def targetKeptUptoRow : OpenClaim := { program := "ythmaijmjhfngpaa", sum := "d766c9178e9023a587c84181d2af8ee7db46f559656a53e1fabc391e1a4466a6", func := "spinney/spinneylaw10.TargetKept", spec := "targetKept", inPlace := ["math/bits.Add64", "math/bits.Sub64"], named := ["math/bits.divideError", "math/bits.overflowError"], apart := false, narrowed := true }
def TargetKeptUptoSaid : Prop := targetKeptUptoRow.holds Try.pinned (OpenSpec.upto targetKeptSpec)

end Rows
end Go.Proofs.Ythmaijmjhfngpaa
