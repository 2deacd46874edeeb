/- gone, asked, Gone. -/
import Derived.Test.YtnokhajjcjfbpaaNe
namespace Go.Proofs.Ytnokhajjcjfbpaa
open Go.RowKit Go.Shelf
attribute [local go_sem] Oper.semAt_some

/-- A plan and no error; none and the error. -/
def AskNo (w : World) (e : Ending) (w' : World) : Prop := e = .returned (.tuple #[.pointer none, .int .i64 2]) ∧ Below w.heap.size w w'
def AskYes (n : Nat) (ts : List Nat) (w : World) (e : Ending) (w' : World) : Prop := ∃ P, e = .returned (.tuple #[.pointer (some ⟨P, 0, none⟩), .int .i64 0]) ∧ PA n ts P w' ∧ w.heap.size ≤ P ∧ P < w'.heap.size ∧ Below w.heap.size w w'
end Go.Proofs.Ytnokhajjcjfbpaa
