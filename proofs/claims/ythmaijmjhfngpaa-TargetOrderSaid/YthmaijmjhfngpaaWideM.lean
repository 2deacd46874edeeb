/- Numbers of four words: what the law of sums and differences rests on. -/
import Derived.Test.YthmaijmjhfngpaaWideL
namespace Go.Proofs.Ythmaijmjhfngpaa
open Go.RowKit

theorem addN_comm (a b : Nat) : addN a b = addN b a := by unfold addN; rw [Nat.add_comm]
theorem addN_assoc (a b c : Nat) : addN (addN a b) c = addN a (addN b c) := by unfold addN; rw [Nat.mod_add_mod, Nat.add_mod_mod, Nat.add_assoc]
theorem sub_add {a b : Nat} (ha : a < w256) (hb : b < w256) : subN (addN a b) b = a := by
  unfold subN addN
  rw [w256_eq] at *
  omega
theorem add_sub {a b : Nat} (ha : a < w256) (hb : b < w256) : addN (subN a b) b = a := by
  unfold subN addN
  rw [w256_eq] at *
  omega
theorem less_cmp (a b : Nat) : subLess a b = decide (cmpN a b < 0) := by
  unfold subLess cmpN
  by_cases h : a < b
  · simp [h]
  · by_cases h2 : a = b
    · simp [h2]
    · simp [h, h2]
theorem add_not {a : Nat} (ha : a < w256) : addN a (notN a) = notN 0 := by
  unfold addN notN
  rw [w256_eq] at *
  omega
theorem cmp_neg (a b : Nat) : cmpN a b = -cmpN b a := by
  unfold cmpN
  by_cases h : a < b
  · have h1 : ¬ b < a := by omega
    have h2 : ¬ b = a := by omega
    simp [h, h1, h2]
  · by_cases h2 : a = b
    · simp [h2]
    · have h1 : b < a := by omega
      simp [h, h1, h2]
theorem cmp_zero (a b : Nat) : decide (cmpN a b = 0) = decide (a = b) := by
  unfold cmpN
  by_cases h : a < b
  · have h2 : ¬ a = b := by omega
    simp [h, h2]
  · by_cases h2 : a = b
    · simp [h2]
    · simp [h, h2]
end Go.Proofs.Ythmaijmjhfngpaa
