/- Plain facts on products: by the bits of a word; by the words of a number. No program. -/
import Derived.Test.YthmaijmjhfngpaaWideDp
namespace Go.Proofs.Ythmaijmjhfngpaa
open Go.RowKit

/-- The product by the k lowest bits. -/
def accN (a n k : Nat) : Nat := a * (n % 2 ^ k)
theorem accN_zero (a n : Nat) : accN a n 0 = 0 := by simp [accN, Nat.mod_one]
theorem accN_all (a : Nat) {n : Nat} (h : n < 2 ^ 64) : accN a n 64 = a * n := by unfold accN; rw [Nat.mod_eq_of_lt h]
theorem mod_next (n k : Nat) : n % 2 ^ (k + 1) = n % 2 ^ k + 2 ^ k * (n.testBit k).toNat := by
  rw [Nat.pow_succ, Nat.mod_mul, Nat.testBit_eq_decide_div_mod_eq]
  generalize n / 2 ^ k = z
  by_cases hz : z % 2 = 1
  · simp [hz]
  · have : z % 2 = 0 := by omega
    simp [this]
theorem accN_no (a : Nat) {n k : Nat} (h : n.testBit k = false) : accN a n (k + 1) = accN a n k := by
  unfold accN; rw [mod_next, h]; simp
theorem accN_yes (a : Nat) {n k : Nat} (h : n.testBit k = true) : accN a n (k + 1) = accN a n k + a * 2 ^ k := by
  unfold accN; rw [mod_next, h]; simp [Nat.mul_add]
theorem accN_le (a n k : Nat) (hn : n < 2 ^ 64) : accN a n k ≤ a * 18446744073709551615 := by
  unfold accN
  apply Nat.mul_le_mul_left
  have := Nat.mod_le n (2 ^ k)
  rw [two64] at hn
  omega
theorem over_lt {a : Nat} (ha : a < w256) {n k : Nat} (hn : n < 2 ^ 64) : accN a n k / w256 < 18446744073709551616 := by
  apply Nat.div_lt_of_lt_mul
  have h1 := accN_le a n k hn
  rw [w256_eq] at *
  omega
/-- What stands above 2^256 of a number moved up by k. -/
theorem high_word {a k : Nat} (ha : a < w256) (hk : k < 64) : shiftN a ((k : Int) - 256) = a * 2 ^ k / w256 ∧ wd (shiftN a ((k : Int) - 256)) 0 = a * 2 ^ k / w256 ∧ a * 2 ^ k / w256 < 9223372036854775808 := by
  have e : shiftN a ((k : Int) - 256) = a * 2 ^ k / w256 := by
    unfold shiftN
    rw [if_neg (by omega), show (-((k : Int) - 256)).toNat = 256 - k from by omega]
    have h : w256 = 2 ^ (256 - k) * 2 ^ k := by unfold w256; rw [← Nat.pow_add]; congr 1; omega
    rw [h, Nat.mul_div_mul_right _ _ (Nat.two_pow_pos k)]
  have hl : a * 2 ^ k / w256 < 9223372036854775808 := by
    apply Nat.div_lt_of_lt_mul
    have h1 : 2 ^ k ≤ 2 ^ 63 := Nat.pow_le_pow_right (by omega) (by omega)
    have h2 : a * 2 ^ k ≤ a * 2 ^ 63 := Nat.mul_le_mul_left _ h1
    have h3 : (2 : Nat) ^ 63 = 9223372036854775808 := by decide
    rw [h3] at h2
    rw [w256_eq] at *
    omega
  refine ⟨e, ?_, hl⟩
  rw [e, wd0, two64]
  omega
theorem acc_step {a n k : Nat} (ha : a < w256) (hn : n < 2 ^ 64) (h : n.testBit k = true) :
    addN (accN a n k % w256) (shiftN a (k : Int)) = accN a n (k + 1) % w256 ∧
    accN a n k / w256 + a * 2 ^ k / w256 + (if addOv (accN a n k % w256) (shiftN a (k : Int)) then 1 else 0) = accN a n (k + 1) / w256 := by
  rw [accN_yes a h, shiftN_up]
  unfold addN addOv
  have hl := over_lt (n := n) (k := k + 1) ha hn
  rw [accN_yes a h] at hl
  generalize accN a n k = A at *
  generalize a * 2 ^ k = X at *
  rw [w256_eq] at *
  refine ⟨by omega, ?_⟩
  split
  · rename_i h; simp only [decide_eq_true_eq] at h; omega
  · rename_i h; simp only [decide_eq_true_eq] at h; omega

/-! ### Products of two numbers, word by word -/
def lowW (q k : Nat) : Nat := q % 2 ^ (64 * k)
theorem lowW_next (q k : Nat) : lowW q (k + 1) = lowW q k + 2 ^ (64 * k) * wd q k := split_mod q k
theorem lowW_zero (q : Nat) : lowW q 0 = 0 := by simp [lowW, Nat.mod_one]
theorem lowW_four {q : Nat} (h : q < w256) : lowW q 4 = q := Nat.mod_eq_of_lt h
theorem times_step {b q : Nat} (h : b * q < w256) {k : Nat} (hk : k < 4) :
    b * wd q k < w256 ∧ mulOv b (wd q k) = 0 ∧ mulN b (wd q k) = b * wd q k ∧ (wd q k ≠ 0 → bitsN (b * wd q k) + 64 * k ≤ 256) ∧
    addN (b * lowW q k) (shiftN (b * wd q k) ((64 * k : Nat) : Int)) = b * lowW q (k + 1) ∧ addOv (b * lowW q k) (shiftN (b * wd q k) ((64 * k : Nat) : Int)) = false ∧ b * lowW q k < w256 := by
  have h0 : lowW q (k + 1) ≤ q := Nat.mod_le _ _
  have h1 : b * lowW q (k + 1) ≤ b * q := Nat.mul_le_mul_left _ h0
  have e := lowW_next q k
  have hb : b * (2 ^ (64 * k) * wd q k) = b * wd q k * 2 ^ (64 * k) := by rw [Nat.mul_comm (2 ^ (64 * k)), Nat.mul_assoc]
  rw [e, Nat.mul_add, hb] at h1
  have hp := Nat.two_pow_pos (64 * k)
  have h2 : b * wd q k * 1 ≤ b * wd q k * 2 ^ (64 * k) := Nat.mul_le_mul_left _ hp
  have hx : b * wd q k < w256 := by omega
  have hs : shiftN (b * wd q k) ((64 * k : Nat) : Int) = b * wd q k * 2 ^ (64 * k) := by
    rw [shiftN_up, Nat.mod_eq_of_lt (by omega)]
  refine ⟨hx, Nat.div_eq_of_lt hx, Nat.mod_eq_of_lt hx, fun hz => ?_, ?_, ?_, by omega⟩
  · by_cases hb0 : b * wd q k = 0
    · rw [hb0, bitsN_zero]; omega
    · obtain ⟨m, em, h5, h6⟩ := bitsN_spec hb0
      rw [em]
      have h7 : 2 ^ m * 2 ^ (64 * k) ≤ b * wd q k * 2 ^ (64 * k) := Nat.mul_le_mul_right _ h5
      rw [← Nat.pow_add] at h7
      have h8 : 2 ^ (m + 64 * k) < 2 ^ 256 := by unfold w256 at h; omega
      have := (Nat.pow_lt_pow_iff_right (show 1 < 2 by decide)).1 h8
      omega
  · unfold addN
    rw [hs, e, Nat.mul_add, hb, Nat.mod_eq_of_lt (by omega)]
  · unfold addOv
    rw [hs]
    simp
    omega
end Go.Proofs.Ythmaijmjhfngpaa
