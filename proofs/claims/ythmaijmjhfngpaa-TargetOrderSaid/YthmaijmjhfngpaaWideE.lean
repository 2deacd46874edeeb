/- What the laws on numbers of four words share: '==', the chapter's answers. -/
import Derived.Test.YthmaijmjhfngpaaWideS
namespace Go.Proofs.Ythmaijmjhfngpaa
open Go.RowKit

theorem eqW (a0 a1 a2 a3 b0 b1 b2 b3 : Int) (w : World) : (binOp .eql 25 (.agg #[.int .u64 a0, .int .u64 a1, .int .u64 a2, .int .u64 a3]) (.agg #[.int .u64 b0, .int .u64 b1, .int .u64 b2, .int .u64 b3])).run Try.prog w = .ok (.bool ([a0, a1, a2, a3] == [b0, b1, b2, b3])) w :=
  run_eql_nums w 25 23 4 .u64 Try.underlying25 Try.underlying23 (fun _ => by kernel_rfl) [a0, a1, a2, a3] [b0, b1, b2, b3] rfl rfl
theorem eqW_same (a0 a1 a2 a3 : Int) (w : World) : (binOp .eql 25 (.agg #[.int .u64 a0, .int .u64 a1, .int .u64 a2, .int .u64 a3]) (.agg #[.int .u64 a0, .int .u64 a1, .int .u64 a2, .int .u64 a3])).run Try.prog w = .ok (.bool true) w := by
  rw [eqW]; simp

/-- A function that hands back a number of four words. -/
theorem wds_lit (n : Nat) (x0 x1 x2 x3 : Nat) (h0 : wd n 0 = x0) (h1 : wd n 1 = x1) (h2 : wd n 2 = x2) (h3 : wd n 3 = x3) : (.agg #[.int .u64 (wd n 0 : Nat), .int .u64 (wd n 1 : Nat), .int .u64 (wd n 2 : Nat), .int .u64 (wd n 3 : Nat)] : Value) = .agg #[.int .u64 (x0 : Int), .int .u64 (x1 : Int), .int .u64 (x2 : Int), .int .u64 (x3 : Int)] := by rw [h0, h1, h2, h3]
theorem wd_zero (i : Nat) : wd 0 i = 0 := by simp [wd]

end Go.Proofs.Ythmaijmjhfngpaa
