/- Numbers of four words: the laws of quotients and products, beside the reference. -/
import Derived.Test.YthmaijmjhfngpaaWideBa
namespace Go.Proofs.Ythmaijmjhfngpaa
open Go.RowKit

theorem in_wide {H : Type} {enc : TypeId × Value → H} {W : World} {v : Value} {d : DataW H} {p : List MemPlace} {base : Nat} (h : DataW.Trod enc Try.prog W 0 (fun _ => true) true 25 v d p) (o : Value.okWide Try.prog W .any base 25 v) :
    ∃ a, a < w256 ∧ v = .agg #[.int .u64 (wd a 0 : Nat), .int .u64 (wd a 1 : Nat), .int .u64 (wd a 2 : Nat), .int .u64 (wd a 3 : Nat)] := by
  obtain ⟨zs, hl, rfl, hz⟩ := in_array Try.underlying25 Try.underlying23 (by kernel_rfl) (by kernel_rfl) h o
  exact wide_of hl hz

end Go.Proofs.Ythmaijmjhfngpaa
