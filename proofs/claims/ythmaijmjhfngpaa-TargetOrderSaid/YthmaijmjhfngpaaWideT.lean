/- Numbers of four words: the law of sums, differences, order and bytes, beside the reference. -/
import Derived.Test.YthmaijmjhfngpaaWideQ
namespace Go.Proofs.Ythmaijmjhfngpaa
open Go.RowKit

theorem SeqS.long {P : Program} {ops : Array Oper} {Q : Exit → Act → World → Prop} {S : World → Prop} {o : Oper} {os : List Oper} {a : Act} (t : TypeId) (v : Value) {x : Operand} {p : Addr} (hw : Region.wanted o (yielded ops a.tmps) = true) (ho : o.op = .load t x) (hx : a.eval x = .pointer (some p))
    (h : ∀ w, S w → (loadVar t p).run P w = .ok v w) (hr : SeqS P ops S Q os (a.put o.dst v)) : SeqS P ops S Q (o :: os) a :=
  SeqS.take hw (fun w hS => by
    unfold execOp
    simp only [ho, hx, Instr.loadAt, Instr.sureAddr, Sem.run_bind, Sem.run_pure, Result.andThen_ok, h w hS]) hr

end Go.Proofs.Ythmaijmjhfngpaa
