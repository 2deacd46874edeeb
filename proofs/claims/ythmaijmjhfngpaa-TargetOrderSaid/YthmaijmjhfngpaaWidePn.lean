/- Plain facts on numbers of four words, continued: bits and moves. No program. -/
import Derived.Test.YthmaijmjhfngpaaWidePm
namespace Go.Proofs.Ythmaijmjhfngpaa
open Go.RowKit

/-- The bit of a number at any place: none below 0. -/
def bitI (a : Nat) (j : Int) : Bool := decide (0 ≤ j) && a.testBit j.toNat
def atV (a : Nat) (j : Int) : Nat := if 0 ≤ j ∧ j < 4 then wd a j.toNat else 0
def shiftN (a : Nat) (c : Int) : Nat := if 0 ≤ c then a * 2 ^ c.toNat % w256 else a / 2 ^ (-c).toNat
theorem bit_beyond {a : Nat} (ha : a < w256) {p : Nat} (hp : 256 ≤ p) : a.testBit p = false := by
  apply Nat.testBit_lt_two_pow
  exact Nat.lt_of_lt_of_le ha (Nat.pow_le_pow_right (by omega) hp)
theorem wd_bit (a i t : Nat) : (wd a i).testBit t = (decide (t < 64) && a.testBit (64 * i + t)) := by
  unfold wd
  rw [Nat.testBit_mod_two_pow, Nat.testBit_div_two_pow, Nat.add_comm]
theorem bitI_nat (a p : Nat) : bitI a (p : Int) = a.testBit p := by unfold bitI; simp
theorem bitI_neg (a : Nat) {j : Int} (h : j < 0) : bitI a j = false := by unfold bitI; simp; omega
theorem atV_bit {a : Nat} (ha : a < w256) (j : Int) (t : Nat) : (atV a j).testBit t = (decide (t < 64) && bitI a (64 * j + t)) := by
  by_cases h : 0 ≤ j ∧ j < 4
  · unfold atV
    rw [if_pos h, wd_bit]
    obtain ⟨k, rfl⟩ := Int.eq_ofNat_of_zero_le h.1
    rw [show 64 * (k : Int) + t = ((64 * k + t : Nat) : Int) from by omega, bitI_nat, Int.toNat_natCast]
  · unfold atV
    rw [if_neg h, Nat.zero_testBit]
    by_cases ht : t < 64
    · by_cases hj : j < 0
      · rw [bitI_neg a (by omega)]; simp
      · obtain ⟨k, rfl⟩ := Int.eq_ofNat_of_zero_le (show 0 ≤ j by omega)
        rw [show 64 * (k : Int) + t = ((64 * k + t : Nat) : Int) from by omega, bitI_nat, bit_beyond ha (by omega)]; simp
    · simp [ht]
theorem shiftN_lt {a : Nat} (ha : a < w256) (c : Int) : shiftN a c < w256 := by
  unfold shiftN
  split
  · exact Nat.mod_lt _ (by rw [w256_eq]; decide)
  · exact Nat.lt_of_le_of_lt (Nat.div_le_self _ _) ha
theorem shiftN_bit {a : Nat} (ha : a < w256) (c : Int) (p : Nat) : (shiftN a c).testBit p = (decide (p < 256) && bitI a (p - c)) := by
  unfold shiftN
  split
  · rename_i h
    obtain ⟨k, rfl⟩ := Int.eq_ofNat_of_zero_le h
    rw [Int.toNat_natCast, show w256 = 2 ^ 256 from rfl, Nat.testBit_mod_two_pow, Nat.mul_comm, Nat.testBit_two_pow_mul]
    congr 1
    by_cases hk : k ≤ p
    · rw [show (p : Int) - k = ((p - k : Nat) : Int) from by omega, bitI_nat]; simp [hk]
    · rw [bitI_neg a (by omega)]; simp; omega
  · rename_i h
    obtain ⟨k, hk⟩ := Int.eq_ofNat_of_zero_le (show 0 ≤ -c by omega)
    rw [hk, Int.toNat_natCast, Nat.testBit_div_two_pow, show (p : Int) - c = ((p + k : Nat) : Int) from by omega, bitI_nat]
    by_cases hp : p < 256
    · simp [hp]
    · rw [bit_beyond ha (by omega)]; simp [hp]
/-- What each word of a moved number is. -/
theorem shift_word {a : Nat} (ha : a < w256) {c W : Int} {R : Nat} (hc : c = 64 * W + R) (hR : R < 64) (i : Nat) (hi : i < 4) :
    bits .or .u64 (IntKind.u64.wrap (((atV a (i - W) : Nat) : Int) * 2 ^ R)) (((atV a (i - W - 1) : Nat) : Int) / 2 ^ (64 - R)) = ((wd (shiftN a c) i : Nat) : Int) := by
  have hx : atV a (i - W) < 2 ^ 64 := by
    unfold atV; split
    · exact wd_lt _ _
    · decide
  have hy : atV a (i - W - 1) < 2 ^ 64 := by
    unfold atV; split
    · exact wd_lt _ _
    · decide
  have hxb := fun t => atV_bit ha (i - W) t
  have hyb := fun t => atV_bit ha (i - W - 1) t
  generalize atV a (i - W) = x at *
  generalize atV a (i - W - 1) = y at *
  have e1 : IntKind.u64.wrap ((x : Int) * 2 ^ R) = ((x * 2 ^ R % 2 ^ 64 : Nat) : Int) := by
    have : (x : Int) * 2 ^ R = ((x * 2 ^ R : Nat) : Int) := by rw [Int.natCast_mul, Int.natCast_pow]; rfl
    rw [this]
    generalize x * 2 ^ R = z
    simp only [IntKind.wrap, IntKind.bits, IntKind.signed]; simp
  have e2 : (y : Int) / 2 ^ (64 - R) = ((y / 2 ^ (64 - R) : Nat) : Int) := by
    have : (2 : Int) ^ (64 - R) = ((2 ^ (64 - R) : Nat) : Int) := by rw [Int.natCast_pow]; rfl
    rw [this]; rfl
  rw [e1, e2, u64_or_nat _ _ (Nat.mod_lt _ (by decide)) (Nat.lt_of_le_of_lt (Nat.div_le_self _ _) hy)]
  congr 1
  apply Nat.eq_of_testBit_eq
  intro t
  rw [show x * 2 ^ R % 18446744073709551616 = x * 2 ^ R % 2 ^ 64 from rfl, Nat.testBit_or, Nat.testBit_mod_two_pow, Nat.mul_comm, Nat.testBit_two_pow_mul, Nat.testBit_div_two_pow, hxb, hyb, wd_bit, shiftN_bit ha]
  by_cases ht : t < 64
  · have h256 : 64 * i + t < 256 := by omega
    by_cases hr : R ≤ t
    · have a1 : 64 * ((i : Int) - W) + ((t - R : Nat) : Int) = ((64 * i + t : Nat) : Int) - c := by omega
      have a2 : ¬ t + (64 - R) < 64 := by omega
      have a3 : t - R < 64 := by omega
      simp [ht, hr, a1, a2, a3, h256]
    · have a1 : 64 * ((i : Int) - W - 1) + ((t + (64 - R) : Nat) : Int) = ((64 * i + t : Nat) : Int) - c := by omega
      have a2 : t + (64 - R) < 64 := by omega
      have a3 : ¬ t ≥ R := by omega
      simp only [ht, a1, a2, a3, h256, decide_true, decide_false, Bool.true_and, Bool.false_and, Bool.false_or]
  · have a2 : ¬ t + (64 - R) < 64 := by omega
    simp [ht, a2]

/-- How many bits a number has. -/
def bitsN (a : Nat) : Nat := if a = 0 then 0 else Nat.log2 a + 1
theorem bitsN_zero : bitsN 0 = 0 := rfl
theorem bitsN_eq {x k : Nat} (h1 : 2 ^ k ≤ x) (h2 : x < 2 ^ (k + 1)) : bitsN x = k + 1 := by
  have : x ≠ 0 := by have := Nat.two_pow_pos k; omega
  unfold bitsN
  rw [if_neg this, (Nat.log2_eq_iff this).2 ⟨h1, h2⟩]
theorem bitsN_spec {x : Nat} (h : x ≠ 0) : ∃ k, bitsN x = k + 1 ∧ 2 ^ k ≤ x ∧ x < 2 ^ (k + 1) := ⟨Nat.log2 x, by unfold bitsN; rw [if_neg h], Nat.log2_self_le h, Nat.lt_log2_self⟩
theorem bitsN_lt (x : Nat) : x < 2 ^ bitsN x := by
  by_cases h : x = 0
  · subst h; decide
  · obtain ⟨k, e, _, h2⟩ := bitsN_spec h
    rw [e]; exact h2
theorem bitsN_le {x k : Nat} (h : x < 2 ^ k) : bitsN x ≤ k := by
  by_cases h0 : x = 0
  · subst h0; rw [bitsN_zero]; omega
  · obtain ⟨j, e, h1, _⟩ := bitsN_spec h0
    have : 2 ^ j < 2 ^ k := Nat.lt_of_le_of_lt h1 h
    have := (Nat.pow_lt_pow_iff_right (a := 2) (by omega)).1 this
    omega
theorem bitsN_high {lo x k : Nat} (hlo : lo < 2 ^ k) (hx : x ≠ 0) : bitsN (lo + 2 ^ k * x) = k + bitsN x := by
  obtain ⟨j, e, h1, h2⟩ := bitsN_spec hx
  rw [e]
  have l1 : 2 ^ k * 2 ^ j ≤ 2 ^ k * x := Nat.mul_le_mul_left _ h1
  have l2 : 2 ^ k * (x + 1) ≤ 2 ^ k * 2 ^ (j + 1) := Nat.mul_le_mul_left _ h2
  rw [Nat.mul_add, Nat.mul_one] at l2
  rw [← Nat.pow_add] at l1 l2
  have : bitsN (lo + 2 ^ k * x) = (k + j) + 1 := bitsN_eq (by omega) (by rw [show k + j + 1 = k + (j + 1) from by omega]; omega)
  omega
theorem bitLen_bitsN {x : Nat} (h : x < 2 ^ 64) : Lib.bitLen x = bitsN x := by
  by_cases h0 : x = 0
  · subst h0; decide
  · obtain ⟨k, e, h1, h2⟩ := bitsN_spec h0
    have hk : k < 64 := (Nat.pow_lt_pow_iff_right (a := 2) (by omega)).1 (Nat.lt_of_le_of_lt h1 h)
    rw [e, Lib.bitLen_shift k x h1 h]
    have := Nat.pow_succ 2 k
    have : x / 2 ^ k = 1 := by apply Nat.div_eq_of_lt_le <;> omega
    rw [this]
    rfl
theorem bits_hi {a : Nat} (ha : a < w256) :
    (wd a 3 ≠ 0 → bitsN a = 192 + bitsN (wd a 3)) ∧ (wd a 3 = 0 → wd a 2 ≠ 0 → bitsN a = 128 + bitsN (wd a 2)) ∧ (wd a 3 = 0 → wd a 2 = 0 → wd a 1 ≠ 0 → bitsN a = 64 + bitsN (wd a 1)) ∧
    (wd a 3 = 0 → wd a 2 = 0 → wd a 1 = 0 → bitsN a = bitsN (wd a 0)) := by
  have sa := wd_sum ha
  have a0 := wd_lt a 0; have a1 := wd_lt a 1; have a2 := wd_lt a 2; have a3 := wd_lt a 3
  generalize wd a 0 = x0 at *; generalize wd a 1 = x1 at *; generalize wd a 2 = x2 at *; generalize wd a 3 = x3 at *
  subst sa
  refine ⟨fun h => ?_, fun h3 h => ?_, fun h3 h2 h => ?_, fun h3 h2 h1 => ?_⟩
  · exact bitsN_high (by rw [two64, two128, two192]; omega) h
  · subst h3
    rw [Nat.mul_zero, Nat.add_zero]
    exact bitsN_high (by rw [two64, two128]; omega) h
  · subst h3 h2
    simp only [Nat.mul_zero, Nat.add_zero]
    exact bitsN_high (by rw [two64]; omega) h
  · subst h3 h2 h1
    simp
end Go.Proofs.Ythmaijmjhfngpaa
