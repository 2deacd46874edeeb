/- The law PosTrees. -/
import Derived.Test.YtnokhajjcjfbpaaPosTr
import Derived.Test.YtnokhajjcjfbpaaPosL
namespace Go.Proofs.Ytnokhajjcjfbpaa
open Go.RowKit

/-- A slice of the call's own: each of its places is a cell that reads so. -/
theorem own_at {w : World} {B : Nat} {e : TypeId} {A : Option Addr} {n c k : Nat} {xs : List Value} (h : w.ownsRow B e 1 (.slice A n c) n xs) (hk : k < n) :
    ∃ g, A = some ⟨g, 0, none⟩ ∧ B ≤ g ∧ g < w.heap.size ∧ w.cell? ⟨g, k, none⟩ = xs[k]? := by
  obtain ⟨g, cap, hv, hb, hlt⟩ := h.form (by omega)
  injection hv with h1 h2 h3
  subst h1
  subst h3
  exact ⟨g, rfl, hb, hlt, h.cellAt k (by omega)⟩

end Go.Proofs.Ytnokhajjcjfbpaa
