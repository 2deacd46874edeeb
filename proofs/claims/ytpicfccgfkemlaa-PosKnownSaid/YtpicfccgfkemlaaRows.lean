/-
  No cell of these rows narrows 'for every input' (looked for: loops, veiled, ifaces, maps, wideKeys, modest, calm, conditions, laid).
  DERIVED. THE GIVEN ROWS OF THIS SEAT. 7 by the template 'for every input the law returns true; each argument reads behind the call as it read before'; 0 by the template 'total and deterministic' (their statements: YtpicfccgfkemlaaTotals.lean).
  GIVEN WITH THE SEED: the statements are not yours to turn. If you find one false, say at which input.
  Laid BY PROGRAM, IN A SANDBOX (cutbox-rows.mjs): the forced cells as the released guide's own fill.sh prints them over the translation dd131600702f0da2… (all of the seat's roots in one cut). By AI agents, Wed Nov 11 2026. No macro, syntax, notation, axiom, sorry.
-/
import Derived.Test.YtpicfccgfkemlaaChecked
import GoSem.Claim
import GoSem.ClaimJoined
import GoSem.ClaimMapViews
import Derived.JoinedTies
import Derived.KernelRfl
namespace Go.Proofs.Ytpicfccgfkemlaa
/- THE CELL 'sum', in the pinned program and in every row, IS THE sha256 OF THE DUMP (.gsa) THAT YtpicfccgfkemlaaProg.lean LOADS. Nothing in Lean hashes anything: it is a label: what it is worth is what the hold of that sum in a sandbox is worth. -/
noncomputable def Try.pinned : Pinned := { name := "ytpicfccgfkemlaa", sum := "dd131600702f0da21bfbb4ab25dcc2caee463df3ffc15bdec7568abdede380cd", checked := Try.checked }
namespace Rows
def none {H : Type} : Left H := { results := [], args := [] }

/-- 'spinneylaw11.PosTrees': WHATEVER THE INPUT: true; the input reads as it did. -/
def posTreesSpec : ChangeSpec := { name := "posTrees", fn := fun _ => fun
  | [d1, d2] => { results := [.lit (.bool true)], args := [d1, d2] }
  | _ => none }
def posTreesRow : OpenClaim := { program := "ytpicfccgfkemlaa", sum := "dd131600702f0da21bfbb4ab25dcc2caee463df3ffc15bdec7568abdede380cd", func := "spinney/spinneylaw11.PosTrees", spec := "posTrees", apart := false }
def PosTreesSaid : Prop := posTreesRow.holds Try.pinned (OpenSpec.ofChange posTreesSpec)

/-- ITS FALSE NEIGHBOUR: 'it returns false'. Refute it at one input. -/
def posTreesWrong : ChangeSpec := { name := "posTrees", fn := fun _ => fun
  | [d1, d2] => { results := [.lit (.bool false)], args := [d1, d2] }
  | _ => none }
def PosTreesWrongFalsely : Prop := posTreesRow.holds Try.pinned (OpenSpec.ofChange posTreesWrong)

/-- 'spinneylaw11.PosRemaps': WHATEVER THE INPUT: true; the input reads as it did. -/
def posRemapsSpec : ChangeSpec := { name := "posRemaps", fn := fun _ => fun
  | [d1, d2, d3] => { results := [.lit (.bool true)], args := [d1, d2, d3] }
  | _ => none }
def posRemapsRow : OpenClaim := { program := "ytpicfccgfkemlaa", sum := "dd131600702f0da21bfbb4ab25dcc2caee463df3ffc15bdec7568abdede380cd", func := "spinney/spinneylaw11.PosRemaps", spec := "posRemaps", apart := false }
def PosRemapsSaid : Prop := posRemapsRow.holds Try.pinned (OpenSpec.ofChange posRemapsSpec)

/-- ITS FALSE NEIGHBOUR: 'it returns false'. Refute it at one input. -/
def posRemapsWrong : ChangeSpec := { name := "posRemaps", fn := fun _ => fun
  | [d1, d2, d3] => { results := [.lit (.bool false)], args := [d1, d2, d3] }
  | _ => none }
def PosRemapsWrongFalsely : Prop := posRemapsRow.holds Try.pinned (OpenSpec.ofChange posRemapsWrong)

/-- 'spinneylaw11.PosRows': WHATEVER THE INPUT: true; the input reads as it did. -/
def posRowsSpec : ChangeSpec := { name := "posRows", fn := fun _ => fun
  | [d1, d2, d3] => { results := [.lit (.bool true)], args := [d1, d2, d3] }
  | _ => none }
def posRowsRow : OpenClaim := { program := "ytpicfccgfkemlaa", sum := "dd131600702f0da21bfbb4ab25dcc2caee463df3ffc15bdec7568abdede380cd", func := "spinney/spinneylaw11.PosRows", spec := "posRows", apart := false }
def PosRowsSaid : Prop := posRowsRow.holds Try.pinned (OpenSpec.ofChange posRowsSpec)

/-- ITS FALSE NEIGHBOUR: 'it returns false'. Refute it at one input. -/
def posRowsWrong : ChangeSpec := { name := "posRows", fn := fun _ => fun
  | [d1, d2, d3] => { results := [.lit (.bool false)], args := [d1, d2, d3] }
  | _ => none }
def PosRowsWrongFalsely : Prop := posRowsRow.holds Try.pinned (OpenSpec.ofChange posRowsWrong)

/-- 'spinneylaw11.PosBelow': WHATEVER THE INPUT: true; the input reads as it did. -/
def posBelowSpec : ChangeSpec := { name := "posBelow", fn := fun _ => fun
  | [d1, d2, d3] => { results := [.lit (.bool true)], args := [d1, d2, d3] }
  | _ => none }
def posBelowRow : OpenClaim := { program := "ytpicfccgfkemlaa", sum := "dd131600702f0da21bfbb4ab25dcc2caee463df3ffc15bdec7568abdede380cd", func := "spinney/spinneylaw11.PosBelow", spec := "posBelow", apart := false }
def PosBelowSaid : Prop := posBelowRow.holds Try.pinned (OpenSpec.ofChange posBelowSpec)

/-- ITS FALSE NEIGHBOUR: 'it returns false'. Refute it at one input. -/
def posBelowWrong : ChangeSpec := { name := "posBelow", fn := fun _ => fun
  | [d1, d2, d3] => { results := [.lit (.bool false)], args := [d1, d2, d3] }
  | _ => none }
def PosBelowWrongFalsely : Prop := posBelowRow.holds Try.pinned (OpenSpec.ofChange posBelowWrong)

/-- 'spinneylaw11.PosBack': WHATEVER THE INPUT: true; the input reads as it did. -/
def posBackSpec : ChangeSpec := { name := "posBack", fn := fun _ => fun
  | [d1, d2] => { results := [.lit (.bool true)], args := [d1, d2] }
  | _ => none }
def posBackRow : OpenClaim := { program := "ytpicfccgfkemlaa", sum := "dd131600702f0da21bfbb4ab25dcc2caee463df3ffc15bdec7568abdede380cd", func := "spinney/spinneylaw11.PosBack", spec := "posBack", apart := false }
def PosBackSaid : Prop := posBackRow.holds Try.pinned (OpenSpec.ofChange posBackSpec)

/-- ITS FALSE NEIGHBOUR: 'it returns false'. Refute it at one input. -/
def posBackWrong : ChangeSpec := { name := "posBack", fn := fun _ => fun
  | [d1, d2] => { results := [.lit (.bool false)], args := [d1, d2] }
  | _ => none }
def PosBackWrongFalsely : Prop := posBackRow.holds Try.pinned (OpenSpec.ofChange posBackWrong)

/-- 'spinneylaw11.PosRoots': WHATEVER THE INPUT: true; the input reads as it did. -/
def posRootsSpec : ChangeSpec := { name := "posRoots", fn := fun _ => fun
  | [d1, d2] => { results := [.lit (.bool true)], args := [d1, d2] }
  | _ => none }
def posRootsRow : OpenClaim := { program := "ytpicfccgfkemlaa", sum := "dd131600702f0da21bfbb4ab25dcc2caee463df3ffc15bdec7568abdede380cd", func := "spinney/spinneylaw11.PosRoots", spec := "posRoots", unfollowed := true, recurses := true, apart := false }
def PosRootsSaid : Prop := posRootsRow.holds Try.pinned (OpenSpec.ofChange posRootsSpec)

/-- ITS FALSE NEIGHBOUR: 'it returns false'. Refute it at one input. -/
def posRootsWrong : ChangeSpec := { name := "posRoots", fn := fun _ => fun
  | [d1, d2] => { results := [.lit (.bool false)], args := [d1, d2] }
  | _ => none }
def PosRootsWrongFalsely : Prop := posRootsRow.holds Try.pinned (OpenSpec.ofChange posRootsWrong)

/-- 'spinneylaw11.PosKnown': WHATEVER THE INPUT: true; the input reads as it did. -/
def posKnownSpec : ChangeSpec := { name := "posKnown", fn := fun _ => fun
  | [] => { results := [.lit (.bool true)], args := [] }
  | _ => none }
def posKnownRow : OpenClaim := { program := "ytpicfccgfkemlaa", sum := "dd131600702f0da21bfbb4ab25dcc2caee463df3ffc15bdec7568abdede380cd", func := "spinney/spinneylaw11.PosKnown", spec := "posKnown", unfollowed := true, recurses := true, apart := false }
def PosKnownSaid : Prop := posKnownRow.holds Try.pinned (OpenSpec.ofChange posKnownSpec)

/-- ITS FALSE NEIGHBOUR: 'it returns false'. Refute it at one input. -/
def posKnownWrong : ChangeSpec := { name := "posKnown", fn := fun _ => fun
  | [] => { results := [.lit (.bool false)], args := [] }
  | _ => none }
def PosKnownWrongFalsely : Prop := posKnownRow.holds Try.pinned (OpenSpec.ofChange posKnownWrong)

/- THE SECOND FORM. 'bulk': how many values and letters a reading holds, each counted each time it is reached (what is shared counts as often as it is met; a slice's spare places count too). A statement '..UptoSaid' is the law's where the arguments, and the package variables that the reading takes, are together of bulk at most 1048576: NARROWER than '..Said'. Prove '..Said' where nothing that the law and all that it calls make is longer than what came in: it says more and counts as full. Else prove '..UptoSaid'. A law counts once. -/
mutual
def uptoBulk {H : Type} : DataW H → Nat
  | .lit (.string bytes) => bytes.length + 1
  | .lit _ => 1
  | .nil => 1
  | .ptr d => uptoBulk d + 1
  | .slice elems spare => uptoBulkAll elems + uptoBulkAll spare + 1
  | .agg parts => uptoBulkAll parts + 1
  | .iface _ d => uptoBulk d + 1
  | .map entries => uptoBulkEntries entries + 1
  | .held _ => 1
def uptoBulkAll {H : Type} : List (DataW H) → Nat
  | [] => 0
  | d :: r => uptoBulk d + uptoBulkAll r
def uptoBulkEntries {H : Type} : List (Lit × DataW H) → Nat
  | [] => 0
  | x :: r => uptoBulkEntry x + uptoBulkEntries r
def uptoBulkEntry {H : Type} : Lit × DataW H → Nat
  | (.string bytes, d) => bytes.length + uptoBulk d + 1
  | (_, d) => uptoBulk d + 1
 end
def uptoSmall : (H : Type) → List (DataW H) → Bool := fun _ ds => decide (uptoBulkAll ds ≤ 1048576)
def OpenSpec.upto (s : _root_.Go.ChangeSpec) : _root_.Go.OpenSpec := { _root_.Go.OpenSpec.ofChange s with cond := some uptoSmall }

/-- 'spinneylaw11.PosTrees', WHERE WHAT IT READS IS OF BULK AT MOST 1048576: true; the input reads as it did. -/
def posTreesUptoRow : OpenClaim := { program := "ytpicfccgfkemlaa", sum := "dd131600702f0da21bfbb4ab25dcc2caee463df3ffc15bdec7568abdede380cd", func := "spinney/spinneylaw11.PosTrees", spec := "posTrees", apart := false, narrowed := true }
def PosTreesUptoSaid : Prop := posTreesUptoRow.holds Try.pinned (OpenSpec.upto posTreesSpec)

/-- 'spinneylaw11.PosRemaps', WHERE WHAT IT READS IS OF BULK AT MOST 1048576: true; the input reads as it did. -/
def posRemapsUptoRow : OpenClaim := { program := "ytpicfccgfkemlaa", sum := "dd131600702f0da21bfbb4ab25dcc2caee463df3ffc15bdec7568abdede380cd", func := "spinney/spinneylaw11.PosRemaps", spec := "posRemaps", apart := false, narrowed := true }
def PosRemapsUptoSaid : Prop := posRemapsUptoRow.holds Try.pinned (OpenSpec.upto posRemapsSpec)

/-- 'spinneylaw11.PosRows', WHERE WHAT IT READS IS OF BULK AT MOST 1048576: true; the input reads as it did. -/
def posRowsUptoRow : OpenClaim := { program := "ytpicfccgfkemlaa", sum := "dd131600702f0da21bfbb4ab25dcc2caee463df3ffc15bdec7568abdede380cd", func := "spinney/spinneylaw11.PosRows", spec := "posRows", apart := false, narrowed := true }
def PosRowsUptoSaid : Prop := posRowsUptoRow.holds Try.pinned (OpenSpec.upto posRowsSpec)

/-- 'spinneylaw11.PosBelow', WHERE WHAT IT READS IS OF BULK AT MOST 1048576: true; the input reads as it did. -/
def posBelowUptoRow : OpenClaim := { program := "ytpicfccgfkemlaa", sum := "dd131600702f0da21bfbb4ab25dcc2caee463df3ffc15bdec7568abdede380cd", func := "spinney/spinneylaw11.PosBelow", spec := "posBelow", apart := false, narrowed := true }
def PosBelowUptoSaid : Prop := posBelowUptoRow.holds Try.pinned (OpenSpec.upto posBelowSpec)

/-- 'spinneylaw11.PosBack', WHERE WHAT IT READS IS OF BULK AT MOST 1048576: true; the input reads as it did. -/
def posBackUptoRow : OpenClaim := { program := "ytpicfccgfkemlaa", sum := "dd131600702f0da21bfbb4ab25dcc2caee463df3ffc15bdec7568abdede380cd", func := "spinney/spinneylaw11.PosBack", spec := "posBack", apart := false, narrowed := true }
def PosBackUptoSaid : Prop := posBackUptoRow.holds Try.pinned (OpenSpec.upto posBackSpec)

/-- 'spinneylaw11.PosRoots', WHERE WHAT IT READS IS OF BULK AT MOST 1048576: true; the input reads as it did. -/
def posRootsUptoRow : OpenClaim := { program := "ytpicfccgfkemlaa", sum := "dd131600702f0da21bfbb4ab25dcc2caee463df3ffc15bdec7568abdede380cd", func := "spinney/spinneylaw11.PosRoots", spec := "posRoots", unfollowed := true, recurses := true, apart := false, narrowed := true }
def PosRootsUptoSaid : Prop := posRootsUptoRow.holds Try.pinned (OpenSpec.upto posRootsSpec)

/-- 'spinneylaw11.PosKnown', WHERE WHAT IT READS IS OF BULK AT MOST 1048576: true; the input reads as it did. -/
def posKnownUptoRow : OpenClaim := { program := "ytpicfccgfkemlaa", sum := "dd131600702f0da21bfbb4ab25dcc2caee463df3ffc15bdec7568abdede380cd", func := "spinney/spinneylaw11.PosKnown", spec := "posKnown", unfollowed := true, recurses := true, apart := false, narrowed := true }
def PosKnownUptoSaid : Prop := posKnownUptoRow.holds Try.pinned (OpenSpec.upto posKnownSpec)

end Rows
end Go.Proofs.Ytpicfccgfkemlaa
