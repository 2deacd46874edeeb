/- Numbers of four words: the law of moves up and down again. -/
import Derived.Test.YthmaijmjhfngpaaWideG
namespace Go.Proofs.Ythmaijmjhfngpaa
open Go.RowKit

theorem lit_zero : (.agg #[.int .u64 (wd 0 0 : Nat), .int .u64 (wd 0 1 : Nat), .int .u64 (wd 0 2 : Nat), .int .u64 (wd 0 3 : Nat)] : Value) = .agg #[.int .u64 0, .int .u64 0, .int .u64 0, .int .u64 0] := wds_lit _ 0 0 0 0 (by decide) (by decide) (by decide) (by decide)
theorem lit_one : (.agg #[.int .u64 (wd 1 0 : Nat), .int .u64 (wd 1 1 : Nat), .int .u64 (wd 1 2 : Nat), .int .u64 (wd 1 3 : Nat)] : Value) = .agg #[.int .u64 1, .int .u64 0, .int .u64 0, .int .u64 0] := wds_lit _ 1 0 0 0 (by decide) (by decide) (by decide) (by decide)
theorem sh_any {a : Nat} (ha : a < w256) (c : Int) (w : World) : Calls Try.prog 30 #[.agg #[.int .u64 (wd a 0 : Nat), .int .u64 (wd a 1 : Nat), .int .u64 (wd a 2 : Nat), .int .u64 (wd a 3 : Nat)], .int .i64 c] w (BRet (.agg #[.int .u64 (wd (shiftN a c) 0 : Nat), .int .u64 (wd (shiftN a c) 1 : Nat), .int .u64 (wd (shiftN a c) 2 : Nat), .int .u64 (wd (shiftN a c) 3 : Nat)]) w) := by
  have := shift_any a c w ha
  rwa [shiftN_clamp ha] at this

end Go.Proofs.Ythmaijmjhfngpaa
