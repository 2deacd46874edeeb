/- Plain facts on numbers of four words. No program. -/
import Derived.IntWalk
import Derived.Lib.BitFns
import Derived.Laws.BitsAllLaws
import Derived.Laws.BitsLemmas
namespace Go.Proofs.Ythmaijmjhfngpaa
open Go.RowKit

/-- The i-th word of a number. -/
def wd (n i : Nat) : Nat := n / 2 ^ (64 * i) % 2 ^ 64
theorem wd_lt (n i : Nat) : wd n i < 18446744073709551616 := Nat.mod_lt _ (by decide)
theorem wd_bd (n i : Nat) : 0 ≤ (wd n i : Int) ∧ (wd n i : Int) ≤ 18446744073709551615 := by have := wd_lt n i; omega
def w256 : Nat := 2 ^ 256
theorem w256_eq : w256 = 115792089237316195423570985008687907853269984665640564039457584007913129639936 := by unfold w256; decide
theorem two64 : (2 : Nat) ^ 64 = 18446744073709551616 := by decide
theorem two128 : (2 : Nat) ^ 128 = 340282366920938463463374607431768211456 := by decide
theorem two192 : (2 : Nat) ^ 192 = 6277101735386680763835789423207666416102355444464034512896 := by decide
theorem wd0 (n : Nat) : wd n 0 = n % 2 ^ 64 := by simp [wd]
theorem wd1 (n : Nat) : wd n 1 = n / 2 ^ 64 % 2 ^ 64 := by simp [wd]
theorem wd2 (n : Nat) : wd n 2 = n / 2 ^ 128 % 2 ^ 64 := by simp [wd]
theorem wd3 (n : Nat) : wd n 3 = n / 2 ^ 192 % 2 ^ 64 := by simp [wd]
/-- A number below 2^256 is its words. -/
theorem wd_sum {n : Nat} (h : n < w256) : n = wd n 0 + 2 ^ 64 * wd n 1 + 2 ^ 128 * wd n 2 + 2 ^ 192 * wd n 3 := by
  rw [wd0, wd1, wd2, wd3, two64, two128, two192]
  rw [w256_eq] at h
  omega
theorem wd_ext {m n : Nat} (hm : m < w256) (hn : n < w256) (h0 : wd m 0 = wd n 0) (h1 : wd m 1 = wd n 1) (h2 : wd m 2 = wd n 2) (h3 : wd m 3 = wd n 3) : m = n := by
  rw [wd_sum hm, wd_sum hn, h0, h1, h2, h3]
/-- The number of four words. -/
def ofWds (a b c d : Nat) : Nat := a + 2 ^ 64 * b + 2 ^ 128 * c + 2 ^ 192 * d
theorem ofWds_lt {a b c d : Nat} (ha : a < 2 ^ 64) (hb : b < 2 ^ 64) (hc : c < 2 ^ 64) (hd : d < 2 ^ 64) : ofWds a b c d < w256 := by
  unfold ofWds
  rw [w256_eq, two128, two192]
  rw [two64] at *
  omega
theorem wd_ofWds {a b c d : Nat} (ha : a < 2 ^ 64) (hb : b < 2 ^ 64) (hc : c < 2 ^ 64) (hd : d < 2 ^ 64) :
    wd (ofWds a b c d) 0 = a ∧ wd (ofWds a b c d) 1 = b ∧ wd (ofWds a b c d) 2 = c ∧ wd (ofWds a b c d) 3 = d := by
  rw [wd0, wd1, wd2, wd3]
  unfold ofWds
  rw [two128, two192]
  rw [two64] at *
  omega
theorem wd_mod {n i : Nat} (h : i < 4) : wd (n % w256) i = wd n i := by
  have : i = 0 ∨ i = 1 ∨ i = 2 ∨ i = 3 := by omega
  rcases this with rfl | rfl | rfl | rfl
  · rw [wd0, wd0, two64, w256_eq]; omega
  · rw [wd1, wd1, two64, w256_eq]; omega
  · rw [wd2, wd2, two64, two128, w256_eq]; omega
  · rw [wd3, wd3, two64, two192, w256_eq]; omega

/-! ### Sums -/
def addN (a b : Nat) : Nat := (a + b) % w256
def addOv (a b : Nat) : Bool := decide (w256 ≤ a + b)
/-- The carry behind k words. -/
def cy (a b k : Nat) : Nat := (a % 2 ^ (64 * k) + b % 2 ^ (64 * k)) / 2 ^ (64 * k)
theorem addN_lt (a b : Nat) : addN a b < w256 := Nat.mod_lt _ (by rw [w256_eq]; decide)
theorem cy_zero (a b : Nat) : cy a b 0 = 0 := by simp [cy, Nat.mod_one]
theorem cy_le (a b k : Nat) : cy a b k ≤ 1 := by
  unfold cy
  have hp : 0 < 2 ^ (64 * k) := Nat.two_pow_pos _
  have h1 := Nat.mod_lt a hp
  have h2 := Nat.mod_lt b hp
  have : (a % 2 ^ (64 * k) + b % 2 ^ (64 * k)) / 2 ^ (64 * k) < 2 := Nat.div_lt_of_lt_mul (by omega)
  omega
theorem split_mod (a k : Nat) : a % 2 ^ (64 * (k + 1)) = a % 2 ^ (64 * k) + 2 ^ (64 * k) * wd a k := by
  rw [show 64 * (k + 1) = 64 * k + 64 from by omega, Nat.pow_add, Nat.mod_mul]
  rfl
theorem cy_next (a b k : Nat) : cy a b (k + 1) = (wd a k + wd b k + cy a b k) / 18446744073709551616 := by
  have hp : 0 < 2 ^ (64 * k) := Nat.two_pow_pos _
  rw [show cy a b (k + 1) = (a % 2 ^ (64 * (k + 1)) + b % 2 ^ (64 * (k + 1))) / 2 ^ (64 * (k + 1)) from rfl, split_mod, split_mod]
  rw [show 2 ^ (64 * (k + 1)) = 2 ^ (64 * k) * 18446744073709551616 from by rw [show 64 * (k + 1) = 64 * k + 64 from by omega, Nat.pow_add], ← Nat.div_div_eq_div_mul]
  congr 1
  rw [show a % 2 ^ (64 * k) + 2 ^ (64 * k) * wd a k + (b % 2 ^ (64 * k) + 2 ^ (64 * k) * wd b k) = (a % 2 ^ (64 * k) + b % 2 ^ (64 * k)) + 2 ^ (64 * k) * (wd a k + wd b k) from by rw [Nat.mul_add]; omega]
  rw [Nat.add_mul_div_left _ _ hp]
  show cy a b k + _ = _
  omega
theorem add_wd (a b k : Nat) (hk : k < 4) : wd (addN a b) k = (wd a k + wd b k + cy a b k) % 18446744073709551616 := by
  have hp : 0 < 2 ^ (64 * k) := Nat.two_pow_pos _
  unfold addN
  rw [wd_mod hk]
  have e : (a + b) / 2 ^ (64 * k) = a / 2 ^ (64 * k) + b / 2 ^ (64 * k) + cy a b k := by
    have ha := Nat.div_add_mod a (2 ^ (64 * k))
    have hb := Nat.div_add_mod b (2 ^ (64 * k))
    have : a + b = (a % 2 ^ (64 * k) + b % 2 ^ (64 * k)) + 2 ^ (64 * k) * (a / 2 ^ (64 * k) + b / 2 ^ (64 * k)) := by rw [Nat.mul_add]; omega
    rw [this, Nat.add_mul_div_left _ _ hp]
    unfold cy
    omega
  unfold wd
  rw [e, two64]
  omega
theorem cy_four {a b : Nat} (ha : a < w256) (hb : b < w256) : ((cy a b 4 : Int) != 0) = addOv a b := by
  have e : cy a b 4 = (a + b) / w256 := by
    unfold cy
    rw [show 2 ^ (64 * 4) = w256 from rfl, Nat.mod_eq_of_lt ha, Nat.mod_eq_of_lt hb]
  unfold addOv
  rw [e]
  rw [w256_eq] at *
  by_cases h : 115792089237316195423570985008687907853269984665640564039457584007913129639936 ≤ a + b
  · have h1 : (a + b) / 115792089237316195423570985008687907853269984665640564039457584007913129639936 = 1 := by omega
    rw [h1]
    simp [h]
  · have h1 : (a + b) / 115792089237316195423570985008687907853269984665640564039457584007913129639936 = 0 := by omega
    rw [h1]
    simp [h]
end Go.Proofs.Ythmaijmjhfngpaa
