/- Plain facts on quotients: of two words by one, in halves of words; bit by bit from above. No program. -/
import Derived.Test.YthmaijmjhfngpaaWidePn
namespace Go.Proofs.Ythmaijmjhfngpaa
open Go.RowKit

/-! ### Two words by one: the guess of half a word -/
theorem letters_lt {U c X Y R : Nat} (h6 : U = X + R) (ht : R + c < Y) : U + c < X + Y := by omega
theorem letters_sum (A B C : Nat) : A + B + C = B + C + A := by omega
/-- What the guess keeps: it is not too small, and tells its rest. d: the divisor's upper half. -/
def Guess (D d u c q r : Nat) : Prop := (u * 4294967296 + c) / D ≤ q ∧ q ≤ 4294967297 ∧ q * d + r = u
/-- A divisor's halves. -/
def Halves (D d e : Nat) : Prop := D = d * 4294967296 + e ∧ e < 4294967296 ∧ 2147483648 ≤ d ∧ d < 4294967296
theorem halves_of {D : Nat} (hD : 9223372036854775808 ≤ D) (hD2 : D < 18446744073709551616) : Halves D (D / 4294967296) (D % 4294967296) := by
  unfold Halves; omega
theorem guess_lt {D u c : Nat} (hu : u < D) (hc : c < 4294967296) : (u * 4294967296 + c) / D < 4294967296 := by
  apply Nat.div_lt_of_lt_mul
  have : (u + 1) * 4294967296 ≤ D * 4294967296 := Nat.mul_le_mul_right _ hu
  rw [Nat.add_mul] at this
  omega
theorem guess_split {D d e : Nat} (h : Halves D d e) (q : Nat) : q * D = q * d * 4294967296 + q * e := by
  rw [h.1, Nat.mul_add, Nat.mul_assoc]
theorem guess_start {D d e u c : Nat} (h : Halves D d e) (hu : u < D) (hc : c < 4294967296) :
    Guess D d u c (u / d) (u % d) ∧ u % d < 4294967296 := by
  obtain ⟨hD, he, hd1, hd2⟩ := h
  have hm := Nat.mod_lt u (show 0 < d by omega)
  have h3 := Nat.div_add_mod u d
  refine ⟨⟨?_, ?_, ?_⟩, by omega⟩
  · apply Nat.le_of_lt_succ
    apply Nat.div_lt_of_lt_mul
    have h4 : u < (u / d + 1) * d := by
      rw [Nat.add_mul, Nat.mul_comm (u / d)]; omega
    have h5 := guess_split ⟨hD, he, hd1, hd2⟩ (u / d + 1)
    have h6 : (u + 1) * 4294967296 ≤ (u / d + 1) * d * 4294967296 := Nat.mul_le_mul_right _ h4
    rw [Nat.add_mul] at h6
    show u * 4294967296 + c < D * (u / d + 1)
    rewrite [Nat.mul_comm D, h5]
    omega
  · apply Nat.le_of_lt_succ
    apply Nat.div_lt_of_lt_mul
    rw [show Nat.succ 4294967297 = 4294967298 from rfl]
    omega
  · rw [Nat.mul_comm]; exact h3
theorem guess_more {D d e u c q r : Nat} (hH : Halves D d e) (hu : u < D) (hc : c < 4294967296) (h : Guess D d u c q r) (ht : 4294967296 ≤ q ∨ r * 4294967296 + c < q * e) :
    1 ≤ q ∧ Guess D d u c (q - 1) (r + d) := by
  obtain ⟨h1, h2, h3⟩ := h
  have hq : (u * 4294967296 + c) / D < q := by
    rcases ht with ht | ht
    · exact Nat.lt_of_lt_of_le (guess_lt hu hc) ht
    · apply Nat.div_lt_of_lt_mul
      have h5 := guess_split hH q
      have h6 : u * 4294967296 = q * d * 4294967296 + r * 4294967296 := by rw [← Nat.add_mul, h3]
      rewrite [Nat.mul_comm D q, h5]
      exact letters_lt h6 ht
  unfold Guess
  obtain ⟨Q, hQ⟩ : ∃ Q, (u * 4294967296 + c) / D = Q := ⟨_, rfl⟩
  rewrite [hQ] at h1 hq ⊢
  refine ⟨by omega, by omega, by omega, ?_⟩
  obtain ⟨z, rfl⟩ : ∃ z, q = z + 1 := ⟨q - 1, by omega⟩
  rw [Nat.add_mul] at h3
  simp only [Nat.add_sub_cancel]
  omega
theorem guess_done {D d e u c q r : Nat} (hH : Halves D d e) (h : Guess D d u c q r) (ht : q * e ≤ r * 4294967296 + c) : q = (u * 4294967296 + c) / D := by
  obtain ⟨h1, h2, h3⟩ := h
  apply Nat.le_antisymm _ h1
  have h4 : 0 < D := by have := hH.1; have := hH.2.2.1; omega
  have h6 : u * 4294967296 = q * d * 4294967296 + r * 4294967296 := by rw [← Nat.add_mul, h3]
  rw [Nat.le_div_iff_mul_le h4, guess_split hH]
  omega
theorem guess_break {D d e u c q r : Nat} (hH : Halves D d e) (h : Guess D d u c q r) (hq : q ≤ 4294967296) (hr : 4294967296 ≤ r) : q = (u * 4294967296 + c) / D := by
  apply guess_done hH h
  have h1 : q * e ≤ 4294967296 * e := Nat.mul_le_mul_right _ hq
  have h2 := hH.2.1
  omega
theorem guess_mul {D d e q : Nat} (hH : Halves D d e) (hq : q < 4294967296) : q * e < 18446744073709551616 := by
  have h2 := hH.2.1
  have h3 : q * e ≤ 4294967295 * 4294967295 := Nat.mul_le_mul (by omega) (by omega)
  omega
theorem wrap_u64 (x : Int) : IntKind.u64.wrap x = x % 18446744073709551616 := by simp [IntKind.wrap, IntKind.bits, IntKind.signed]
/-- The rest behind the guess, words wrapped. -/
theorem guess_rest {D u c : Nat} (hD2 : D < 18446744073709551616) (hD : 0 < D) :
    IntKind.u64.wrap (IntKind.u64.wrap (IntKind.u64.wrap ((u : Int) * 4294967296) + c) - IntKind.u64.wrap ((((u * 4294967296 + c) / D : Nat) : Int) * D)) = (((u * 4294967296 + c) % D : Nat) : Int) := by
  have h := Nat.div_add_mod (u * 4294967296 + c) D
  have hm := Nat.mod_lt (u * 4294967296 + c) hD
  have hc : ((((u * 4294967296 + c) / D : Nat) : Int) * D) = ((D * ((u * 4294967296 + c) / D) : Nat) : Int) := by rw [Int.natCast_mul, Int.mul_comm]
  rw [hc]
  clear hc
  obtain ⟨z, hz⟩ : ∃ z, D * ((u * 4294967296 + c) / D) = z := ⟨_, rfl⟩
  obtain ⟨m, hmm⟩ : ∃ m, (u * 4294967296 + c) % D = m := ⟨_, rfl⟩
  rw [hz, hmm] at h
  rw [hmm] at hm
  rw [hz, hmm, wrap_u64, wrap_u64, wrap_u64, wrap_u64]
  clear hz hmm
  omega

/-- The halves put together: the quotient of two words. -/
theorem halves_quot {D u c1 c0 : Nat} (hD : 0 < D) :
    (u * 4294967296 + c1) / D * 4294967296 + ((u * 4294967296 + c1) % D * 4294967296 + c0) / D = (u * 18446744073709551616 + (c1 * 4294967296 + c0)) / D ∧
    ((u * 4294967296 + c1) % D * 4294967296 + c0) % D = (u * 18446744073709551616 + (c1 * 4294967296 + c0)) % D := by
  have h := Nat.div_add_mod (u * 4294967296 + c1) D
  obtain ⟨q, hq⟩ : ∃ q, (u * 4294967296 + c1) / D = q := ⟨_, rfl⟩
  obtain ⟨m, hm⟩ : ∃ m, (u * 4294967296 + c1) % D = m := ⟨_, rfl⟩
  rewrite [hq, hm] at h
  rewrite [hq, hm]
  clear hq hm
  have e : u * 18446744073709551616 + (c1 * 4294967296 + c0) = m * 4294967296 + c0 + D * (q * 4294967296) := by
    have hB : (18446744073709551616 : Nat) = 4294967296 * 4294967296 := by decide
    rewrite [hB, ← Nat.mul_assoc, ← Nat.mul_assoc, ← Nat.add_assoc, ← Nat.add_mul, ← h, Nat.add_mul]
    exact letters_sum _ _ _
  rewrite [e, Nat.add_mul_div_left _ _ hD, Nat.add_mul_mod_self_left]
  exact ⟨Nat.add_comm _ _, rfl⟩
/-- Both numbers moved up alike. -/
theorem moved_quot (n y s : Nat) : n * 2 ^ s / (y * 2 ^ s) = n / y ∧ n * 2 ^ s % (y * 2 ^ s) / 2 ^ s = n % y := by
  have hp := Nat.two_pow_pos s
  refine ⟨Nat.mul_div_mul_right _ _ hp, ?_⟩
  rw [Nat.mul_mod_mul_right, Nat.mul_div_cancel _ hp]
/-- A number of two words, moved up by s places: its upper word, and its lower one. -/
theorem moved_words {hi lo y s : Nat} (hlo : lo < 2 ^ 64) (hs : s ≤ 64) (hy : y * 2 ^ s < 2 ^ 64) (hh : hi < y) :
    (hi * 2 ^ s % 2 ^ 64 ||| lo / 2 ^ (64 - s)) = (hi * 2 ^ 64 + lo) * 2 ^ s / 2 ^ 64 ∧ (hi * 2 ^ 64 + lo) * 2 ^ s / 2 ^ 64 < y * 2 ^ s ∧ lo * 2 ^ s % 2 ^ 64 = (hi * 2 ^ 64 + lo) * 2 ^ s % 2 ^ 64 := by
  have hp := Nat.two_pow_pos s
  have h1 : hi * 2 ^ s < 2 ^ 64 := Nat.lt_trans (Nat.mul_lt_mul_of_pos_right hh hp) hy
  have e : (hi * 2 ^ 64 + lo) * 2 ^ s = lo * 2 ^ s + 2 ^ 64 * (hi * 2 ^ s) := by
    rw [Nat.add_mul, Nat.mul_comm (hi), Nat.mul_assoc, Nat.add_comm]
  have h64 : (2 : Nat) ^ 64 = 2 ^ (64 - s) * 2 ^ s := by rw [← Nat.pow_add]; congr 1; omega
  have e2 : lo * 2 ^ s / 2 ^ 64 = lo / 2 ^ (64 - s) := by
    rw [h64, Nat.mul_div_mul_right _ _ hp]
  have h2 : lo / 2 ^ (64 - s) < 2 ^ s := by
    apply Nat.div_lt_of_lt_mul
    rw [← h64]; exact hlo
  rw [e, Nat.add_mul_div_left _ _ (by decide), Nat.add_mul_mod_self_left, e2, Nat.mod_eq_of_lt h1]
  refine ⟨?_, ?_, rfl⟩
  · rw [Nat.or_comm]
    have := Nat.two_pow_add_eq_or_of_lt h2 hi
    rw [Nat.mul_comm] at this
    rw [Nat.or_comm, ← this]
    omega
  · have : (hi + 1) * 2 ^ s ≤ y * 2 ^ s := Nat.mul_le_mul_right _ hh
    rw [Nat.add_mul] at this
    omega

theorem shiftN_up (a k : Nat) : shiftN a (k : Int) = a * 2 ^ k % w256 := by
  unfold shiftN
  rw [if_pos (by omega), Int.toNat_natCast]

/-! ### Bit by bit from above -/
/-- The bits of a number from place k on. -/
def hiB (Q k : Nat) : Nat := Q / 2 ^ k * 2 ^ k
theorem hiB_bit (Q k p : Nat) : (hiB Q k).testBit p = (decide (k ≤ p) && Q.testBit p) := by
  unfold hiB
  rw [Nat.mul_comm, Nat.testBit_two_pow_mul]
  by_cases h : k ≤ p
  · rw [Nat.testBit_div_two_pow, show p - k + k = p from by omega]
  · simp [h]
theorem hiB_zero (Q : Nat) : hiB Q 0 = Q := by simp [hiB]
theorem hiB_none {Q k : Nat} (h : Q < 2 ^ k) : hiB Q k = 0 := by unfold hiB; rw [Nat.div_eq_of_lt h, Nat.zero_mul]
theorem hiB_same (Q : Nat) {k j : Nat} (h : Q.testBit k = false ∨ ¬ (64 * j ≤ k ∧ k < 64 * j + 64)) : wd (hiB Q k) j = wd (hiB Q (k + 1)) j := by
  apply Nat.eq_of_testBit_eq
  intro t
  rw [wd_bit, wd_bit, hiB_bit, hiB_bit]
  by_cases ht : t < 64
  · simp only [ht, decide_true, Bool.true_and]
    by_cases he : 64 * j + t = k
    · rcases h with h | h
      · rw [he, h]; simp
      · omega
    · by_cases h2 : k + 1 ≤ 64 * j + t
      · have : k ≤ 64 * j + t := by omega
        simp [h2, this]
      · have : ¬ k ≤ 64 * j + t := by omega
        simp [h2, this]
  · simp [ht]
theorem hiB_set {Q q r : Nat} (hr : r < 64) (h : Q.testBit (64 * q + r) = true) :
    bits .or .u64 ((wd (hiB Q (64 * q + r + 1)) q : Nat) : Int) (IntKind.u64.wrap (2 ^ r)) = ((wd (hiB Q (64 * q + r)) q : Nat) : Int) := by
  have e : (2 : Int) ^ r = ((2 ^ r : Nat) : Int) := by rw [Int.natCast_pow]; rfl
  have hl : 2 ^ r ≤ 2 ^ 63 := Nat.pow_le_pow_right (by omega) (by omega)
  have h63 : (2 : Nat) ^ 63 = 9223372036854775808 := by decide
  have hwr : IntKind.u64.wrap ((2 ^ r : Nat) : Int) = ((2 ^ r : Nat) : Int) := by
    generalize 2 ^ r = z at *
    exact IntWalk.u64_in _ (by omega)
  rw [e, hwr, u64_or_nat _ _ (wd_lt _ _) (by omega)]
  congr 1
  apply Nat.eq_of_testBit_eq
  intro t
  rw [Nat.testBit_or, wd_bit, wd_bit, hiB_bit, hiB_bit, Nat.testBit_two_pow]
  by_cases ht : t < 64
  · simp only [ht, decide_true, Bool.true_and]
    by_cases he : t = r
    · subst he; simp [h]
    · have h3 : ¬ r = t := by omega
      by_cases h2 : 64 * q + r + 1 ≤ 64 * q + t
      · have : 64 * q + r ≤ 64 * q + t := by omega
        simp [h3, h2, this]
      · have : ¬ 64 * q + r ≤ 64 * q + t := by omega
        simp [h3, h2, this]
  · have h3 : ¬ r = t := by omega
    simp [ht, h3]
/-- The rest of the bits from place k on. -/
def restN (a b k : Nat) : Nat := a / 2 ^ k % b
theorem restN_zero (a b : Nat) : restN a b 0 = a % b := by simp [restN]
theorem restN_none {a b k : Nat} (h : a < 2 ^ k) : restN a b k = 0 := by unfold restN; rw [Nat.div_eq_of_lt h, Nat.zero_mod]
theorem restN_lt {a b : Nat} (hb : 0 < b) (k : Nat) : restN a b k < b := Nat.mod_lt _ hb
theorem div_bit (a k : Nat) : a / 2 ^ k = 2 * (a / 2 ^ (k + 1)) + (a.testBit k).toNat := by
  have h : a / 2 ^ (k + 1) = a / 2 ^ k / 2 := by rw [Nat.pow_succ, ← Nat.div_div_eq_div_mul]
  rw [h, Nat.testBit_eq_decide_div_mod_eq]
  generalize a / 2 ^ k = z
  by_cases hz : z % 2 = 1
  · simp [hz]; omega
  · have : z % 2 = 0 := by omega
    simp [this]; omega
theorem rest_step {a b : Nat} (hb : 0 < b) (k : Nat) :
    (a / b).testBit k = decide (b ≤ 2 * restN a b (k + 1) + (a.testBit k).toNat) ∧
    restN a b k = if b ≤ 2 * restN a b (k + 1) + (a.testBit k).toNat then 2 * restN a b (k + 1) + (a.testBit k).toNat - b else 2 * restN a b (k + 1) + (a.testBit k).toNat := by
  have hd := div_bit a k
  have hq : a / b / 2 ^ k = a / 2 ^ k / b := by rw [Nat.div_div_eq_div_mul, Nat.mul_comm, ← Nat.div_div_eq_div_mul]
  rw [Nat.testBit_eq_decide_div_mod_eq, hq]
  unfold restN
  rw [hd]
  generalize a / 2 ^ (k + 1) = M
  have hbit : (a.testBit k).toNat ≤ 1 := by cases a.testBit k <;> decide
  generalize (a.testBit k).toNat = t at *
  have h1 := Nat.div_add_mod M b
  have h2 := Nat.mod_lt M hb
  generalize M / b = q at *
  generalize M % b = r at *
  have e : 2 * M + t = (2 * r + t) + b * (2 * q) := by
    rw [← h1, Nat.mul_add, Nat.mul_left_comm]; omega
  rw [e, Nat.add_mul_div_left _ _ hb, Nat.add_mul_mod_self_left (2 * r + t) b (2 * q)]
  by_cases hc : b ≤ 2 * r + t
  · have d1 : (2 * r + t) / b = 1 := Nat.div_eq_of_lt_le (by omega) (by omega)
    have d2 : (2 * r + t) % b = 2 * r + t - b := by
      rw [Nat.mod_eq_sub_mod hc, Nat.mod_eq_of_lt (by omega)]
    rw [d1, d2, if_pos hc]
    exact ⟨by simp [hc], rfl⟩
  · have d1 : (2 * r + t) / b = 0 := Nat.div_eq_of_lt (by omega)
    have d2 : (2 * r + t) % b = 2 * r + t := Nat.mod_eq_of_lt (by omega)
    rw [d1, d2, if_neg hc]
    exact ⟨by simp [hc], rfl⟩
/-- The same in words: the rest doubled, what falls off told beside it. -/
theorem quot_step {a b : Nat} (hb : 0 < b) (hbw : b < w256) (k : Nat) :
    2 * restN a b (k + 1) % w256 + (a.testBit k).toNat < w256 ∧
    (a / b).testBit k = (decide (2 ^ 255 ≤ restN a b (k + 1)) || decide (0 ≤ cmpN (2 * restN a b (k + 1) % w256 + (a.testBit k).toNat) b)) ∧
    ((a / b).testBit k = true → subN (2 * restN a b (k + 1) % w256 + (a.testBit k).toNat) b = restN a b k) ∧
    ((a / b).testBit k = false → 2 * restN a b (k + 1) % w256 + (a.testBit k).toNat = restN a b k) := by
  have hl := restN_lt (a := a) hb (k + 1)
  obtain ⟨h1, h2⟩ := rest_step (a := a) hb k
  have hbit : (a.testBit k).toNat ≤ 1 := by cases a.testBit k <;> decide
  rw [h1]
  generalize restN a b (k + 1) = r at *
  generalize (a.testBit k).toNat = t at *
  rw [h2]
  unfold cmpN subN
  rw [show (2 : Nat) ^ 255 = 57896044618658097711785492504343953926634992332820282019728792003956564819968 from by decide]
  rw [w256_eq] at *
  refine ⟨by omega, ?_, ?_, ?_⟩
  · apply Bool.eq_iff_iff.2
    simp only [decide_eq_true_eq, Bool.or_eq_true]
    constructor
    · intro h
      by_cases hh : 57896044618658097711785492504343953926634992332820282019728792003956564819968 ≤ r
      · exact .inl hh
      · right
        rw [if_neg (by omega)]
        split <;> omega
    · intro h
      rcases h with h | h
      · omega
      · by_cases hx : 2 * r % 115792089237316195423570985008687907853269984665640564039457584007913129639936 + t < b
        · rw [if_pos hx] at h; omega
        · omega
  · intro h
    simp only [decide_eq_true_eq] at h
    rw [if_pos h]
    omega
  · intro h
    simp only [decide_eq_false_iff_not] at h
    rw [if_neg h]
    omega
end Go.Proofs.Ythmaijmjhfngpaa
