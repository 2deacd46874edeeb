/- The law PosRemaps. -/
import Derived.Test.YtnokhajjcjfbpaaPosL
namespace Go.Proofs.Ytnokhajjcjfbpaa
open Go.RowKit

theorem u8_nat {a : Int} (h : (Lit.int .u8 a).wf = true) : 0 ≤ a ∧ a ≤ 255 := by
  simpa [Lit.wf, IntKind.wrap, IntKind.bits, IntKind.signed, IntKind.min, IntKind.max] using h

theorem can_remap {p n m : Nat} (h : p + 1 < 2 ^ (n + 1)) (hm : n ≤ m) : CanRemap p n m := by
  have h1 := (rowOf_spec h).1
  have h2 := offOf_lt h
  have h3 := pw_le (a := n - rowOf p n) (b := m - rowOf p n) (by omega)
  exact ⟨by omega, by omega⟩
theorem remap_spec {p n m : Nat} (hc : CanRemap p n m) : remapOf p n m + 1 < 2 ^ (m + 1) ∧ rowOf (remapOf p n m) m = rowOf p n ∧ offOf (remapOf p n m) m = offOf p n := by
  obtain ⟨h1, h2⟩ := hc
  unfold remapOf
  exact ⟨beg_lt h1 h2, rowOf_beg h1 h2, offOf_beg h1 h2⟩
theorem remap_back {p n m : Nat} (h : p + 1 < 2 ^ (n + 1)) (hm : n ≤ m) : CanRemap (remapOf p n m) m n ∧ remapOf (remapOf p n m) m n = p := by
  obtain ⟨h1, h2, h3⟩ := remap_spec (can_remap h hm)
  have h4 := (rowOf_spec h).1
  have h5 := offOf_lt h
  refine ⟨⟨by omega, by rw [h3, h2]; exact h5⟩, ?_⟩
  show beg (rowOf (remapOf p n m) m) n + offOf (remapOf p n m) m = p
  rw [h2, h3]
  exact beg_off h
theorem remap_par {p n m : Nat} (h : p + 2 < 2 ^ (n + 1)) (hm : n ≤ m) : remapOf p n m + 2 < 2 ^ (m + 1) ∧ remapOf (parOf p n) n m = parOf (remapOf p n m) m := by
  obtain ⟨h1, h2, h3⟩ := remap_spec (can_remap (p := p) (by omega) hm)
  obtain ⟨p1, p2, p3⟩ := par_spec h
  have hr := rowOf_top h
  have ho := offOf_lt (p := p) (R := n) (by omega)
  have h4 : remapOf p n m + 2 < 2 ^ (m + 1) := by
    rcases Nat.lt_or_ge (remapOf p n m + 2) (2 ^ (m + 1)) with h5 | h5
    · exact h5
    · have := rowOf_last (p := remapOf p n m) (R := m) (by omega)
      omega
  refine ⟨h4, ?_⟩
  rw [par_eq h4, h2, h3]
  show beg (rowOf (parOf p n) n) m + offOf (parOf p n) n = _
  rw [p2, p3]

end Go.Proofs.Ytnokhajjcjfbpaa
