/- Numbers of four words and their 32 bytes: plain facts. -/
import Derived.Test.YthmaijmjhfngpaaWideH
namespace Go.Proofs.Ythmaijmjhfngpaa
open Go.RowKit

/-- Byte j of a number. -/
def byN (a j : Nat) : Nat := a / 2 ^ (8 * j) % 2 ^ 8
theorem byN_lt (a j : Nat) : byN a j < 256 := Nat.mod_lt _ (by decide)
theorem byN_bit (a j t : Nat) : (byN a j).testBit t = (decide (t < 8) && a.testBit (8 * j + t)) := by
  unfold byN
  rw [Nat.testBit_mod_two_pow, Nat.testBit_div_two_pow, Nat.add_comm]
/-- The bits that bytes stand for. -/
def bitsOf (f : Nat → Nat) (p : Nat) : Bool := (f (p / 8)).testBit (p % 8)
theorem byte_word (a i k : Nat) (hk : k < 8) : wd a i / 2 ^ (8 * k) % 2 ^ 8 = byN a (8 * i + k) := by
  apply Nat.eq_of_testBit_eq
  intro t
  rw [byN_bit, Nat.testBit_mod_two_pow, Nat.testBit_div_two_pow, wd_bit]
  by_cases ht : t < 8
  · have h1 : t + 8 * k < 64 := by omega
    have h2 : 64 * i + (t + 8 * k) = 8 * (8 * i + k) + t := by omega
    simp [ht, h1, h2]
  · simp [ht]
theorem from_to {a : Nat} (ha : a < w256) : ofBits (bitsOf (byN a)) 256 = a := by
  apply ofBits_eq ha
  intro p _
  unfold bitsOf
  rw [byN_bit]
  have h1 : p % 8 < 8 := by omega
  have h2 : 8 * (p / 8) + p % 8 = p := by omega
  simp [h1, h2]
theorem from_next {f : Nat → Nat} (hf : ∀ j, f j < 256) {i k : Nat} :
    wd (ofBits (bitsOf f) (8 * (8 * i + k))) i ||| f (8 * i + k) * 2 ^ (8 * k) % 2 ^ 64 = wd (ofBits (bitsOf f) (8 * (8 * i + k + 1))) i := by
  apply Nat.eq_of_testBit_eq
  intro t
  rw [Nat.testBit_or, wd_bit, wd_bit, ofBits_bit, ofBits_bit, Nat.testBit_mod_two_pow, Nat.mul_comm (f _), Nat.testBit_two_pow_mul]
  by_cases ht : t < 64
  · simp only [ht, decide_true, Bool.true_and]
    by_cases h1 : t < 8 * k
    · have e1 : 64 * i + t < 8 * (8 * i + k) := by omega
      have e2 : 64 * i + t < 8 * (8 * i + k + 1) := by omega
      have e3 : ¬ t ≥ 8 * k := by omega
      simp [e1, e2, e3]
    · have e1 : ¬ 64 * i + t < 8 * (8 * i + k) := by omega
      have e3 : t ≥ 8 * k := by omega
      by_cases h2 : t < 8 * k + 8
      · have e2 : 64 * i + t < 8 * (8 * i + k + 1) := by omega
        have q1 : (64 * i + t) / 8 = 8 * i + k := by omega
        have q2 : (64 * i + t) % 8 = t - 8 * k := by omega
        simp [e1, e2, e3, bitsOf, q1, q2]
      · have e2 : ¬ 64 * i + t < 8 * (8 * i + k + 1) := by omega
        have hz : (f (8 * i + k)).testBit (t - 8 * k) = false := by
          apply Nat.testBit_lt_two_pow
          exact Nat.lt_of_lt_of_le (hf _) (Nat.pow_le_pow_right (n := 2) (by omega) (show 8 ≤ t - 8 * k by omega))
        simp [e1, e2, e3, hz]
  · simp [ht]
theorem from_same (f : Nat → Nat) {i j k : Nat} (hk : k < 8) (hj : ¬ j = i) :
    wd (ofBits (bitsOf f) (8 * (8 * i + k + 1))) j = wd (ofBits (bitsOf f) (8 * (8 * i + k))) j := by
  apply Nat.eq_of_testBit_eq
  intro t
  rw [wd_bit, wd_bit, ofBits_bit, ofBits_bit]
  by_cases ht : t < 64
  · by_cases h1 : 64 * j + t < 8 * (8 * i + k)
    · have e2 : 64 * j + t < 8 * (8 * i + k + 1) := by omega
      simp [h1, e2]
    · have e2 : ¬ 64 * j + t < 8 * (8 * i + k + 1) := by omega
      simp [h1, e2]
  · simp [ht]
end Go.Proofs.Ythmaijmjhfngpaa
