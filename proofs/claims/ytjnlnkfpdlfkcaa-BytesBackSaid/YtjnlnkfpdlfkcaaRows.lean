/-
  No cell of these rows narrows 'for every input' (looked for: loops, veiled, ifaces, maps, wideKeys, modest, calm, conditions, laid).
  DERIVED. THE GIVEN ROWS OF THIS SEAT. 4 by the template 'for every input the law returns true; each argument reads behind the call as it read before'; 0 by the template 'total and deterministic' (their statements: YtjnlnkfpdlfkcaaTotals.lean).
  GIVEN WITH THE SEED: the statements are not yours to turn. If you find one false, say at which input.
  Laid BY PROGRAM, IN A SANDBOX (cutbox-rows.mjs): the forced cells as the released guide's own fill.sh prints them over the translation f6a2c8972f4e83d1… (all of the seat's roots in one cut). By AI agents, Wed Nov 11 2026. No macro, syntax, notation, axiom, sorry.
-/
import Derived.Test.YtjnlnkfpdlfkcaaChecked
import GoSem.Claim
import GoSem.ClaimJoined
import GoSem.ClaimMapViews
import Derived.JoinedTies
import Derived.KernelRfl
namespace Go.Proofs.Ytjnlnkfpdlfkcaa
/- THE CELL 'sum', in the pinned program and in every row, IS THE sha256 OF THE DUMP (.gsa) THAT YtjnlnkfpdlfkcaaProg.lean LOADS. Nothing in Lean hashes anything: it is a label: what it is worth is what the hold of that sum in a sandbox is worth. -/
noncomputable def Try.pinned : Pinned := { name := "ytjnlnkfpdlfkcaa", sum := "f6a2c8972f4e83d13ca3fff4c7086578ade159f78ba5f0200fae2120a1f07e59", checked := Try.checked }
namespace Rows
def none {H : Type} : Left H := { results := [], args := [] }

/-- 'spinneylaw03.BytesPuts': WHATEVER THE INPUT: true; the input reads as it did. -/
def bytesPutsSpec : ChangeSpec := { name := "bytesPuts", fn := fun _ => fun
  | [d1, d2, d3] => { results := [.lit (.bool true)], args := [d1, d2, d3] }
  | _ => none }
def bytesPutsRow : OpenClaim := { program := "ytjnlnkfpdlfkcaa", sum := "f6a2c8972f4e83d13ca3fff4c7086578ade159f78ba5f0200fae2120a1f07e59", func := "spinney/spinneylaw03.BytesPuts", spec := "bytesPuts", apart := false }
def BytesPutsSaid : Prop := bytesPutsRow.holds Try.pinned (OpenSpec.ofChange bytesPutsSpec)

/-- ITS FALSE NEIGHBOUR: 'it returns false'. Refute it at one input. -/
def bytesPutsWrong : ChangeSpec := { name := "bytesPuts", fn := fun _ => fun
  | [d1, d2, d3] => { results := [.lit (.bool false)], args := [d1, d2, d3] }
  | _ => none }
def BytesPutsWrongFalsely : Prop := bytesPutsRow.holds Try.pinned (OpenSpec.ofChange bytesPutsWrong)

/-- 'spinneylaw03.BytesKnown': WHATEVER THE INPUT: true; the input reads as it did. -/
def bytesKnownSpec : ChangeSpec := { name := "bytesKnown", fn := fun _ => fun
  | [] => { results := [.lit (.bool true)], args := [] }
  | _ => none }
def bytesKnownRow : OpenClaim := { program := "ytjnlnkfpdlfkcaa", sum := "f6a2c8972f4e83d13ca3fff4c7086578ade159f78ba5f0200fae2120a1f07e59", func := "spinney/spinneylaw03.BytesKnown", spec := "bytesKnown", apart := false }
def BytesKnownSaid : Prop := bytesKnownRow.holds Try.pinned (OpenSpec.ofChange bytesKnownSpec)

/-- ITS FALSE NEIGHBOUR: 'it returns false'. Refute it at one input. -/
def bytesKnownWrong : ChangeSpec := { name := "bytesKnown", fn := fun _ => fun
  | [] => { results := [.lit (.bool false)], args := [] }
  | _ => none }
def BytesKnownWrongFalsely : Prop := bytesKnownRow.holds Try.pinned (OpenSpec.ofChange bytesKnownWrong)

/-- 'spinneylaw03.BytesBack': WHATEVER THE INPUT: true; the input reads as it did. -/
def bytesBackSpec : ChangeSpec := { name := "bytesBack", fn := fun _ => fun
  | [d] => { results := [.lit (.bool true)], args := [d] }
  | _ => none }
def bytesBackRow : OpenClaim := { program := "ytjnlnkfpdlfkcaa", sum := "f6a2c8972f4e83d13ca3fff4c7086578ade159f78ba5f0200fae2120a1f07e59", func := "spinney/spinneylaw03.BytesBack", spec := "bytesBack", apart := false }
def BytesBackSaid : Prop := bytesBackRow.holds Try.pinned (OpenSpec.ofChange bytesBackSpec)

/-- ITS FALSE NEIGHBOUR: 'it returns false'. Refute it at one input. -/
def bytesBackWrong : ChangeSpec := { name := "bytesBack", fn := fun _ => fun
  | [d] => { results := [.lit (.bool false)], args := [d] }
  | _ => none }
def BytesBackWrongFalsely : Prop := bytesBackRow.holds Try.pinned (OpenSpec.ofChange bytesBackWrong)

/-- 'spinneylaw03.BytesTorn': WHATEVER THE INPUT: true; the input reads as it did. -/
def bytesTornSpec : ChangeSpec := { name := "bytesTorn", fn := fun _ => fun
  | [d1, d2, d3] => { results := [.lit (.bool true)], args := [d1, d2, d3] }
  | _ => none }
def bytesTornRow : OpenClaim := { program := "ytjnlnkfpdlfkcaa", sum := "f6a2c8972f4e83d13ca3fff4c7086578ade159f78ba5f0200fae2120a1f07e59", func := "spinney/spinneylaw03.BytesTorn", spec := "bytesTorn", apart := false }
def BytesTornSaid : Prop := bytesTornRow.holds Try.pinned (OpenSpec.ofChange bytesTornSpec)

/-- ITS FALSE NEIGHBOUR: 'it returns false'. Refute it at one input. -/
def bytesTornWrong : ChangeSpec := { name := "bytesTorn", fn := fun _ => fun
  | [d1, d2, d3] => { results := [.lit (.bool false)], args := [d1, d2, d3] }
  | _ => none }
def BytesTornWrongFalsely : Prop := bytesTornRow.holds Try.pinned (OpenSpec.ofChange bytesTornWrong)

/- THE SECOND FORM. 'bulk': how many values and letters a reading holds, each counted each time it is reached (what is shared counts as often as it is met; a slice's spare places count too). A statement '..UptoSaid' is the law's where the arguments, and the package variables that the reading takes, are together of bulk at most 1048576: NARROWER than '..Said'. Prove '..Said' where nothing that the law and all that it calls make is longer than what came in: it says more and counts as full. Else prove '..UptoSaid'. A law counts once. -/
mutual
def uptoBulk {H : Type} : DataW H → Nat
  | .lit (.string bytes) => bytes.length + 1
  | .lit _ => 1
  | .nil => 1
  | .ptr d => uptoBulk d + 1
  | .slice elems spare => uptoBulkAll elems + uptoBulkAll spare + 1
  | .agg parts => uptoBulkAll parts + 1
  | .iface _ d => uptoBulk d + 1
  | .map entries => uptoBulkEntries entries + 1
  | .held _ => 1
def uptoBulkAll {H : Type} : List (DataW H) → Nat
  | [] => 0
  | d :: r => uptoBulk d + uptoBulkAll r
def uptoBulkEntries {H : Type} : List (Lit × DataW H) → Nat
  | [] => 0
  | x :: r => uptoBulkEntry x + uptoBulkEntries r
def uptoBulkEntry {H : Type} : Lit × DataW H → Nat
  | (.string bytes, d) => bytes.length + uptoBulk d + 1
  | (_, d) => uptoBulk d + 1
 end
def uptoSmall : (H : Type) → List (DataW H) → Bool := fun _ ds => decide (uptoBulkAll ds ≤ 1048576)
def OpenSpec.upto (s : _root_.Go.ChangeSpec) : _root_.Go.OpenSpec := { _root_.Go.OpenSpec.ofChange s with cond := some uptoSmall }

/-- 'spinneylaw03.BytesPuts', WHERE WHAT IT READS IS OF BULK AT MOST 1048576: true; the input reads as it did. -/
def bytesPutsUptoRow : OpenClaim := { program := "ytjnlnkfpdlfkcaa", sum := "f6a2c8972f4e83d13ca3fff4c7086578ade159f78ba5f0200fae2120a1f07e59", func := "spinney/spinneylaw03.BytesPuts", spec := "bytesPuts", apart := false, narrowed := true }
def BytesPutsUptoSaid : Prop := bytesPutsUptoRow.holds Try.pinned (OpenSpec.upto bytesPutsSpec)

/-- 'spinneylaw03.BytesKnown', WHERE WHAT IT READS IS OF BULK AT MOST 1048576: true; the input reads as it did. -/
def bytesKnownUptoRow : OpenClaim := { program := "ytjnlnkfpdlfkcaa", sum := "f6a2c8972f4e83d13ca3fff4c7086578ade159f78ba5f0200fae2120a1f07e59", func := "spinney/spinneylaw03.BytesKnown", spec := "bytesKnown", apart := false, narrowed := true }
def BytesKnownUptoSaid : Prop := bytesKnownUptoRow.holds Try.pinned (OpenSpec.upto bytesKnownSpec)

/-- 'spinneylaw03.BytesBack', WHERE WHAT IT READS IS OF BULK AT MOST 1048576: true; the input reads as it did. -/
def bytesBackUptoRow : OpenClaim := { program := "ytjnlnkfpdlfkcaa", sum := "f6a2c8972f4e83d13ca3fff4c7086578ade159f78ba5f0200fae2120a1f07e59", func := "spinney/spinneylaw03.BytesBack", spec := "bytesBack", apart := false, narrowed := true }
def BytesBackUptoSaid : Prop := bytesBackUptoRow.holds Try.pinned (OpenSpec.upto bytesBackSpec)

/-- 'spinneylaw03.BytesTorn', WHERE WHAT IT READS IS OF BULK AT MOST 1048576: true; the input reads as it did. -/
def bytesTornUptoRow : OpenClaim := { program := "ytjnlnkfpdlfkcaa", sum := "f6a2c8972f4e83d13ca3fff4c7086578ade159f78ba5f0200fae2120a1f07e59", func := "spinney/spinneylaw03.BytesTorn", spec := "bytesTorn", apart := false, narrowed := true }
def BytesTornUptoSaid : Prop := bytesTornUptoRow.holds Try.pinned (OpenSpec.upto bytesTornSpec)

end Rows
end Go.Proofs.Ytjnlnkfpdlfkcaa
