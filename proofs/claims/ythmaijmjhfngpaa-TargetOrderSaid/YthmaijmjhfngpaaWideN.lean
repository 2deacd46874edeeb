/- Numbers of four words: the law of sums and differences. -/
import Derived.Test.YthmaijmjhfngpaaWideM
import Derived.Test.YthmaijmjhfngpaaSeq
import Derived.WalkSpells
namespace Go.Proofs.Ythmaijmjhfngpaa
open Go.RowKit

theorem eqW_ne {a b : Nat} (ha : a < w256) (hb : b < w256) (h : a ≠ b) (w : World) : (binOp .eql 25 (.agg #[.int .u64 (wd a 0 : Nat), .int .u64 (wd a 1 : Nat), .int .u64 (wd a 2 : Nat), .int .u64 (wd a 3 : Nat)]) (.agg #[.int .u64 (wd b 0 : Nat), .int .u64 (wd b 1 : Nat), .int .u64 (wd b 2 : Nat), .int .u64 (wd b 3 : Nat)])).run Try.prog w = .ok (.bool false) w := by
  rw [eqW]
  congr 2
  cases hc : ([((wd a 0 : Nat) : Int), ((wd a 1 : Nat) : Int), ((wd a 2 : Nat) : Int), ((wd a 3 : Nat) : Int)] == [((wd b 0 : Nat) : Int), ((wd b 1 : Nat) : Int), ((wd b 2 : Nat) : Int), ((wd b 3 : Nat) : Int)])
  · rfl
  · simp at hc
    exact absurd (wd_ext ha hb (by omega) (by omega) (by omega) (by omega)) h

/-- A block of four words that hold this number. -/
def WB (w : World) (g n : Nat) : Prop := IsBlk w g 25 #[.int .u64 (wd n 0 : Nat), .int .u64 (wd n 1 : Nat), .int .u64 (wd n 2 : Nat), .int .u64 (wd n 3 : Nat)]
theorem WB.blk {w : World} {g n : Nat} (h : WB w g n) : IsBlk w g 25 #[.int .u64 (wd n 0 : Nat), .int .u64 (wd n 1 : Nat), .int .u64 (wd n 2 : Nat), .int .u64 (wd n 3 : Nat)] := h
/-- The words that a region may read of a number. -/
def RB (w : World) (g n : Nat) : Prop := w.cell? ⟨g, 0, none⟩ = some (.int .u64 (wd n 0 : Nat)) ∧ w.cell? ⟨g, 1, none⟩ = some (.int .u64 (wd n 1 : Nat)) ∧ w.cell? ⟨g, 2, none⟩ = some (.int .u64 (wd n 2 : Nat)) ∧ w.cell? ⟨g, 3, none⟩ = some (.int .u64 (wd n 3 : Nat))

theorem RB.of {w : World} {g n : Nat} (h : IsBlk w g 25 #[.int .u64 (wd n 0 : Nat), .int .u64 (wd n 1 : Nat), .int .u64 (wd n 2 : Nat), .int .u64 (wd n 3 : Nat)]) : RB w g n := by
  have h0 := h.cell 0
  have h1 := h.cell 1
  have h2 := h.cell 2
  have h3 := h.cell 3
  simp at h0 h1 h2 h3
  exact ⟨h0, h1, h2, h3⟩
theorem RB.later {w w' : World} {g n : Nat} (h : RB w g n) (hb : Below w.heap.size w w') : RB w' g n := ⟨cell_later hb h.1, cell_later hb h.2.1, cell_later hb h.2.2.1, cell_later hb h.2.2.2⟩

end Go.Proofs.Ythmaijmjhfngpaa
