/- Plain facts on numbers of four words, continued: differences, Not, order, products by a word, moves, bits. No program. -/
import Derived.Test.YthmaijmjhfngpaaWidePl
namespace Go.Proofs.Ythmaijmjhfngpaa
open Go.RowKit

/-! ### Differences -/
def subN (a b : Nat) : Nat := (a + w256 - b) % w256
def subLess (a b : Nat) : Bool := decide (a < b)
theorem subN_lt (a b : Nat) : subN a b < w256 := Nat.mod_lt _ (by rw [w256_eq]; decide)
/-- The borrow behind k words. -/
def bw (a b k : Nat) : Nat := cy (subN a b) b k
theorem bw_zero (a b : Nat) : bw a b 0 = 0 := cy_zero _ _
theorem bw_le (a b k : Nat) : bw a b k ≤ 1 := cy_le _ _ _
theorem addN_subN {a b : Nat} (ha : a < w256) (hb : b < w256) : addN (subN a b) b = a := by
  unfold addN subN
  rw [w256_eq] at *
  omega
theorem sub_wd {a b k : Nat} (ha : a < w256) (hb : b < w256) (hk : k < 4) : wd (subN a b) k = (wd a k + 18446744073709551616 - wd b k - bw a b k) % 18446744073709551616 ∧ bw a b (k + 1) = if wd a k < wd b k + bw a b k then 1 else 0 := by
  have h := add_wd (subN a b) b k hk
  rw [addN_subN ha hb] at h
  have h1 := wd_lt (subN a b) k
  have h2 := wd_lt b k
  have h3 := wd_lt a k
  have h4 := bw_le a b k
  have h5 : bw a b (k + 1) = (wd (subN a b) k + wd b k + bw a b k) / 18446744073709551616 := cy_next _ _ _
  have h6 : cy (subN a b) b k = bw a b k := rfl
  rw [h6] at h
  constructor
  · omega
  · rw [h5]
    split <;> omega
theorem bw_four {a b : Nat} (ha : a < w256) (hb : b < w256) : ((bw a b 4 : Int) != 0) = subLess a b := by
  have e : bw a b 4 = (subN a b + b) / w256 := by
    unfold bw cy
    rw [show 2 ^ (64 * 4) = w256 from rfl, Nat.mod_eq_of_lt (subN_lt a b), Nat.mod_eq_of_lt hb]
  unfold subLess
  rw [e]
  unfold subN
  rw [w256_eq] at *
  by_cases h : a < b
  · have h1 : ((a + 115792089237316195423570985008687907853269984665640564039457584007913129639936 - b) % 115792089237316195423570985008687907853269984665640564039457584007913129639936 + b) / 115792089237316195423570985008687907853269984665640564039457584007913129639936 = 1 := by omega
    rw [h1]
    simp [h]
  · have h1 : ((a + 115792089237316195423570985008687907853269984665640564039457584007913129639936 - b) % 115792089237316195423570985008687907853269984665640564039457584007913129639936 + b) / 115792089237316195423570985008687907853269984665640564039457584007913129639936 = 0 := by omega
    rw [h1]
    simp [h]

/-! ### Not -/
def notN (a : Nat) : Nat := w256 - 1 - a
theorem notN_lt (a : Nat) : notN a < w256 := by unfold notN; rw [w256_eq]; omega
theorem not_wd {a k : Nat} (ha : a < w256) (hk : k < 4) : wd (notN a) k = 18446744073709551615 - wd a k := by
  have h : k = 0 ∨ k = 1 ∨ k = 2 ∨ k = 3 := by omega
  unfold notN
  rw [w256_eq] at *
  rcases h with rfl | rfl | rfl | rfl
  · rw [wd0, wd0, two64]; omega
  · rw [wd1, wd1, two64]; omega
  · rw [wd2, wd2, two64, two128]; omega
  · rw [wd3, wd3, two64, two192]; omega
theorem ones_xor (x : Nat) (hx : (x : Int) ≤ 18446744073709551615) : bits .xor .u64 IntKind.u64.max (x : Int) = ((18446744073709551615 - x : Nat) : Int) := by
  show IntKind.u64.wrap ((BitVec.ofInt 64 (18446744073709551615 : Int) ^^^ BitVec.ofInt 64 (x : Int)).toNat : Int) = _
  have e : BitVec.ofInt 64 (18446744073709551615 : Int) = BitVec.allOnes 64 := by decide
  have e2 : BitVec.ofInt 64 (x : Int) = BitVec.ofNat 64 x := by rw [BitVec.ofInt_natCast]
  rw [e, e2, BitVec.allOnes_xor, BitVec.toNat_not, BitVec.toNat_ofNat, Nat.mod_eq_of_lt (by omega)]
  rw [IntWalk.u64_in _ (by omega)]
theorem not_bits {a k : Nat} (ha : a < w256) (hk : k < 4) : bits .xor .u64 IntKind.u64.max ((wd a k : Nat) : Int) = ((wd (notN a) k : Nat) : Int) := by
  rw [ones_xor _ (wd_bd a k).2, not_wd ha hk]

/-! ### Order -/
def cmpN (a b : Nat) : Int := if a < b then -1 else if a = b then 0 else 1
theorem cmp_hi {a b : Nat} (ha : a < w256) (hb : b < w256) :
    (wd a 3 ≠ wd b 3 → cmpN a b = cmpN (wd a 3) (wd b 3)) ∧ (wd a 3 = wd b 3 → wd a 2 ≠ wd b 2 → cmpN a b = cmpN (wd a 2) (wd b 2)) ∧
    (wd a 3 = wd b 3 → wd a 2 = wd b 2 → wd a 1 ≠ wd b 1 → cmpN a b = cmpN (wd a 1) (wd b 1)) ∧ (wd a 3 = wd b 3 → wd a 2 = wd b 2 → wd a 1 = wd b 1 → cmpN a b = cmpN (wd a 0) (wd b 0)) := by
  have sa := wd_sum ha
  have sb := wd_sum hb
  have a0 := wd_lt a 0; have a1 := wd_lt a 1; have a2 := wd_lt a 2; have a3 := wd_lt a 3
  have b0 := wd_lt b 0; have b1 := wd_lt b 1; have b2 := wd_lt b 2; have b3 := wd_lt b 3
  rw [two64, two128, two192] at sa sb
  generalize wd a 0 = x0 at *; generalize wd a 1 = x1 at *; generalize wd a 2 = x2 at *; generalize wd a 3 = x3 at *
  generalize wd b 0 = y0 at *; generalize wd b 1 = y1 at *; generalize wd b 2 = y2 at *; generalize wd b 3 = y3 at *
  subst sa sb
  unfold cmpN
  refine ⟨?_, ?_, ?_, ?_⟩ <;> intros <;> (repeat' split) <;> omega

/-! ### Products by a word -/
def mulN (a n : Nat) : Nat := a * n % w256
def mulOv (a n : Nat) : Nat := a * n / w256
theorem mulN_lt (a n : Nat) : mulN a n < w256 := Nat.mod_lt _ (by rw [w256_eq]; decide)
/-- What is carried behind k words. -/
def mo (a n k : Nat) : Nat := a % 2 ^ (64 * k) * n / 2 ^ (64 * k)
theorem mo_zero (a n : Nat) : mo a n 0 = 0 := by simp [mo, Nat.mod_one]
theorem mo_next (a n k : Nat) : mo a n (k + 1) = (wd a k * n + mo a n k) / 18446744073709551616 := by
  have hp : 0 < 2 ^ (64 * k) := Nat.two_pow_pos _
  unfold mo
  rw [split_mod, Nat.add_mul, Nat.mul_assoc, show 2 ^ (64 * (k + 1)) = 2 ^ (64 * k) * 18446744073709551616 from by rw [show 64 * (k + 1) = 64 * k + 64 from by omega, Nat.pow_add], ← Nat.div_div_eq_div_mul,
    Nat.add_mul_div_left _ _ hp, Nat.add_comm]
theorem mo_lt (a n k : Nat) (hn : 0 < n) : mo a n k < n := by
  have hp : 0 < 2 ^ (64 * k) := Nat.two_pow_pos _
  unfold mo
  apply Nat.div_lt_of_lt_mul
  rw [Nat.mul_comm]
  have := Nat.mod_lt a hp
  rw [Nat.mul_comm n]
  exact Nat.mul_lt_mul_of_pos_right this hn
theorem mo_bd (a n k : Nat) (hn : n < 18446744073709551616) : mo a n k < 18446744073709551616 := by
  by_cases h : n = 0
  · subst h; simp [mo]
  · have := mo_lt a n k (by omega); omega
theorem mul_wd (a n k : Nat) (hk : k < 4) : wd (mulN a n) k = (wd a k * n + mo a n k) % 18446744073709551616 := by
  have hp : 0 < 2 ^ (64 * k) := Nat.two_pow_pos _
  unfold mulN
  rw [wd_mod hk]
  have e : a * n / 2 ^ (64 * k) = a / 2 ^ (64 * k) * n + mo a n k := by
    have ha := Nat.div_add_mod a (2 ^ (64 * k))
    have h1 : a * n = a % 2 ^ (64 * k) * n + 2 ^ (64 * k) * (a / 2 ^ (64 * k) * n) := by
      rw [← Nat.mul_assoc, ← Nat.add_mul]
      congr 1
      omega
    rw [h1, Nat.add_mul_div_left _ _ hp]
    unfold mo
    omega
  unfold wd
  rw [e, two64, Nat.add_mod, Nat.mul_mod, ← Nat.add_mod]
  conv => rhs; rw [Nat.add_mod, Nat.mul_mod, ← Nat.add_mod]
  rw [Nat.mod_mod]
theorem mo_four {a n : Nat} (ha : a < w256) : mo a n 4 = mulOv a n := by
  unfold mo mulOv
  rw [show 2 ^ (64 * 4) = w256 from rfl, Nat.mod_eq_of_lt ha]
end Go.Proofs.Ythmaijmjhfngpaa
