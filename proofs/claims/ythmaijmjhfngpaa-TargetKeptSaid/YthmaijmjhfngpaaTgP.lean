/- Plain facts for the law of what is kept. -/
import Derived.Test.YthmaijmjhfngpaaTgL
namespace Go.Proofs.Ythmaijmjhfngpaa
open Go.RowKit

theorem trunc_zero : truncN 0 = 0 := by unfold truncN; rw [Nat.zero_div, Nat.zero_mul]
theorem trunc_ge {y d : Nat} (hy : y ≠ 0) (hd : bitsN y = d + 1) (h3 : 2 ^ d ≤ y) : 2 ^ d ≤ truncN y := by
  have hk := keep_lt hy
  have e2 : 2 ^ (d - keepB y) * 2 ^ keepB y = 2 ^ d := by
    rw [← Nat.pow_add, show d - keepB y + keepB y = d from by omega]
  unfold truncN
  have h4 : 2 ^ (d - keepB y) ≤ y / 2 ^ keepB y := by
    rw [Nat.le_div_iff_mul_le (Nat.two_pow_pos _), e2]; exact h3
  have h5 := Nat.mul_le_mul_right (2 ^ keepB y) h4
  rw [e2] at h5
  exact h5
theorem trunc_mono {x y : Nat} (h : x ≤ y) : truncN x ≤ truncN y := by
  by_cases hx : x = 0
  · subst hx; rw [trunc_zero]; exact Nat.zero_le _
  have hy : y ≠ 0 := by omega
  obtain ⟨b, hb, h1, h2⟩ := bitsN_spec hx
  obtain ⟨d, hd, h3, h4⟩ := bitsN_spec hy
  by_cases e : bitsN x = bitsN y
  · have e1 : keepB x = keepB y := by unfold keepB; rw [siz_pos hx, siz_pos hy, e]
    unfold truncN; rw [e1]; exact Nat.mul_le_mul_right _ (Nat.div_le_div_right h)
  · have hlt : b < d := by
      rcases Nat.lt_or_ge b d with h' | h'
      · exact h'
      · exfalso
        have h5 : d + 1 ≤ b := by omega
        have := Nat.pow_le_pow_right (n := 2) (by decide) h5
        omega
    have h5 := Nat.pow_le_pow_right (n := 2) (by decide) (show b + 1 ≤ d from hlt)
    have h6 := trunc_ge hy hd h3
    have h7 := trunc_le x
    omega
theorem span_same (n : Nat) : spanN (n : Int) n = n := by unfold spanN; omega
theorem up_four {T t n : Nat} (h : t ≤ n * 4) : T * t / n ≤ T * 4 := by
  refine Nat.div_le_of_le_mul ?_
  have := Nat.mul_le_mul_left T h
  rw [show n * (T * 4) = T * (n * 4) from by rw [Nat.mul_left_comm]]
  exact this
theorem down_four {T t n : Nat} (h : n / 4 ≤ t) (h4 : n % 4 = 0) (hn : 0 < n) : T / 4 ≤ T * t / n := by
  rw [Nat.le_div_iff_mul_le hn]
  obtain ⟨k, rfl⟩ : ∃ k, n = 4 * k := ⟨n / 4, by omega⟩
  have h1 : k ≤ t := by omega
  have h2 := Nat.mul_le_mul_right k (Nat.div_mul_le_self T 4)
  have h3 := Nat.mul_le_mul_left T h1
  rw [← Nat.mul_assoc]
  exact Nat.le_trans h2 h3
theorem low_span {T t n : Nat} (h : n / 4 ≤ t) (hn : 4 ≤ n) (h0 : T * t / n = 0) : T < 8 := by
  have h1 : T * t < n := by
    rcases Nat.lt_or_ge (T * t) n with h' | h'
    · exact h'
    · have := Nat.div_pos h' (show 0 < n by omega); omega
  rcases Nat.lt_or_ge T 8 with h' | h'
  · exact h'
  · have h2 : 8 * (n / 4) ≤ T * t := Nat.mul_le_mul h' h
    omega
theorem bits_small {x : Nat} (h : x < 8) : bitsN x ≤ 4 := by
  by_cases h0 : x = 0
  · subst h0; decide
  · obtain ⟨k, e, h1, h2⟩ := bitsN_spec h0
    rcases Nat.lt_or_ge k 4 with h' | h'
    · omega
    · have := Nat.pow_le_pow_right (n := 2) (by decide) h'
      omega
theorem cN_zero : cN 0 = 0 := by decide +kernel
/-- What stands behind a new setting that was not refused. -/
theorem kept_facts {c l n : Nat} {s : Int} (hc : badB c = false) (hl : badB l = false) (h1 : 1 ≤ n) (h2 : n ≤ 1152921504606846976) :
    ∃ m : Nat, nextN c l s n = cN m ∧ m < w256 ∧ m ≤ xN l ∧ m ≤ xN c * 4 ∧ (m = 0 → n < 4 ∨ bitsN (xN c) ≤ 4) ∧ (n % 4 = 0 → min (xN c / 4) (xN l) ≤ m) := by
  have hL := xN_lt l
  refine ⟨min (xN c * spanN s n / n) (xN l), ?_, by omega, by omega, ?_, fun h0 => ?_, fun h4 => ?_⟩
  · unfold nextN
    rw [hc, hl, if_neg (by simp; omega), Int.toNat_natCast]
  · have := up_four (T := xN c) (spanN_le s n); omega
  · have hl0 : xN l ≠ 0 := fun h => by rw [xN_zero, hl] at h; cases h
    rcases Nat.lt_or_ge n 4 with h | h
    · exact .inl h
    · exact .inr (bits_small (low_span (spanN_ge s n) h (by omega)))
  · have := down_four (T := xN c) (spanN_ge s n) h4 (by omega); omega
theorem kept_same {c l n : Nat} (hc : badB c = false) (hl : badB l = false) (h1 : 1 ≤ n) (h2 : n ≤ 1152921504606846976) (hle : xN c ≤ xN l) (he : cN (xN c) = c) : nextN c l n n = c := by
  unfold nextN
  rw [hc, hl, if_neg (by simp; omega), Int.toNat_natCast, span_same, Nat.mul_div_cancel _ h1, Nat.min_eq_left hle, he]
end Go.Proofs.Ythmaijmjhfngpaa
