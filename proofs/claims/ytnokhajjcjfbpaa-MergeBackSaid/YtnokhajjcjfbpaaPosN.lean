/- The law PosBack. -/
import Derived.Test.YtnokhajjcjfbpaaPosM
namespace Go.Proofs.Ytnokhajjcjfbpaa
open Go.RowKit

theorem left_back {p n : Nat} (h : p + 1 < 2 ^ (n + 1)) (h0 : 2 ^ n ≤ p) :
    leftOf p n % 2 = 0 ∧ parOf (leftOf p n) n = p ∧ parOf (leftOf p n + 1) n = p ∧ sibOf (leftOf p n) = leftOf p n + 1 ∧ Below_ (leftOf p n) p n ∧ ¬ Below_ p (leftOf p n) n := by
  obtain ⟨h1, h2, h3, h4, h5⟩ := left_spec h h0
  obtain ⟨g1, g2, g3⟩ := left_eq h h0
  have e := (sib_eq (p := leftOf p n) (R := n) (by omega)).1
  have hev : leftOf p n % 2 = 0 := by omega
  obtain ⟨a1, a2, a3⟩ := par_spec (p := leftOf p n) (R := n) (by omega)
  obtain ⟨b1, b2, b3⟩ := par_spec (p := leftOf p n + 1) (R := n) (by omega)
  refine ⟨hev, pos_ext a1 h (by omega) (by omega), pos_ext b1 h (by omega) (by omega), ?_, ?_, ?_⟩
  · unfold sibOf
    rw [if_pos hev]
  · unfold Below_
    refine ⟨by omega, ?_⟩
    rw [h2, h3, show rowOf p n - (rowOf p n - 1) = 1 from by omega]
    omega
  · unfold Below_
    omega
theorem sib_par {p n : Nat} (h : p + 2 < 2 ^ (n + 1)) : parOf (sibOf p) n = parOf p n := by
  obtain ⟨h1, h2, h3, h4⟩ := sib_spec h
  unfold parOf
  have : sibOf p / 2 = p / 2 := by
    unfold sibOf
    split <;> omega
  rw [this]
theorem withinB_nat {a b R : Nat} (hR : R ≤ 63) (ha : a + 1 < 2 ^ (R + 1)) (hb : b + 1 < 2 ^ (R + 1)) : WithinB a b R = decide (Below_ a b R) := by
  unfold WithinB
  rw [Int.toNat_natCast]
  simp [PosOk.of_nat hR ha, PosOk.of_nat hR hb]

end Go.Proofs.Ytnokhajjcjfbpaa
