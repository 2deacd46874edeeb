/- Two words divided by one: bits.Div64's contract. -/
import Derived.Test.YthmaijmjhfngpaaWideU
namespace Go.Proofs.Ythmaijmjhfngpaa
open Go.RowKit

theorem wrap_nat (x : Int) : ∃ n : Nat, IntKind.u64.wrap x = (n : Nat) := by
  rw [wrap_u64]
  exact Int.eq_ofNat_of_zero_le (Int.emod_nonneg _ (by decide))
theorem wrap_small {n : Nat} (h : n < 18446744073709551616) : IntKind.u64.wrap (n : Int) = (n : Nat) := IntWalk.u64_in _ (by omega)
theorem cast_pow (x s : Nat) : (x : Int) * 2 ^ s = ((x * 2 ^ s : Nat) : Int) := by rw [Int.natCast_mul, Int.natCast_pow]; rfl
theorem cast_dpow (x s : Nat) : (x : Int) / 2 ^ s = ((x / 2 ^ s : Nat) : Int) := by rw [Int.natCast_ediv, Int.natCast_pow]; rfl
theorem low_half {D : Nat} (h : D < 18446744073709551616) : bits .and .u64 (D : Nat) 4294967295 = ((D % 4294967296 : Nat) : Int) := by
  rw [show (4294967295 : Int) = ((4294967295 : Nat) : Int) from rfl, u64_and_nat _ _ h (by decide), show (4294967295 : Nat) = 2 ^ 32 - 1 from by decide, Nat.and_two_pow_sub_one_eq_mod]
theorem guess_letters {u d : Nat} (hu : u < 18446744073709551616) :
    IntKind.u64.wrap ((u : Int) / (d : Int)) = ((u / d : Nat) : Int) ∧ IntKind.u64.wrap (((u / d : Nat) : Int) * (d : Int)) = ((u / d * d : Nat) : Int) ∧ IntKind.u64.wrap ((u : Int) - ((u / d * d : Nat) : Int)) = ((u % d : Nat) : Int) := by
  have h1 := Nat.div_le_self u d
  have h2 := Nat.div_mul_le_self u d
  have h3 := Nat.div_add_mod u d
  rw [Nat.mul_comm] at h3
  refine ⟨?_, ?_, ?_⟩
  · rw [← Int.natCast_ediv]; exact wrap_small (by omega)
  · rw [← Int.natCast_mul]; exact wrap_small (by omega)
  · rw [show (u : Int) - ((u / d * d : Nat) : Int) = ((u % d : Nat) : Int) from by omega]; exact wrap_small (by omega)

theorem div64_any (hi lo y : Nat) (w : World) (hhy : hi < y) (hy2 : y < 18446744073709551616) (hl : lo < 18446744073709551616) :
    Calls Try.prog 49 #[.int .u64 hi, .int .u64 lo, .int .u64 y] w fun e w' =>
      e = .returned (.tuple #[.int .u64 (((hi * 18446744073709551616 + lo) / y : Nat) : Int), .int .u64 (((hi * 18446744073709551616 + lo) % y : Nat) : Int)]) ∧ ∃ n, w' = w.drewN n := by
  by_cases hh : hi = 0
  · subst hh
    rw [Nat.zero_mul, Nat.zero_add]
    exact div64_low lo y w hhy hy2 hl
  obtain ⟨k, hk, k1, k2⟩ := bitsN_spec (show y ≠ 0 by omega)
  have hk63 : k ≤ 63 := by
    have := bitsN_le (x := y) (k := 64) (by rw [two64]; exact hy2)
    omega
  have hLZ : Lib.bitLen y = k + 1 := (bitLen_bitsN (by rw [two64]; exact hy2)).trans hk
  obtain ⟨s, hs⟩ : ∃ s, s = 63 - k := ⟨_, rfl⟩
  have p63 : (2 : Nat) ^ 63 = 9223372036854775808 := by decide
  have hD1 : 9223372036854775808 ≤ y * 2 ^ s := by
    have h := Nat.mul_le_mul_right (2 ^ s) k1
    rwa [← Nat.pow_add, show k + s = 63 from by omega, p63] at h
  have hD2 : y * 2 ^ s < 18446744073709551616 := by
    have h := Nat.mul_lt_mul_of_pos_right k2 (Nat.two_pow_pos s)
    rwa [← Nat.pow_add, show k + 1 + s = 64 from by omega, two64] at h
  obtain ⟨m1, m2, m3⟩ := moved_words (hi := hi) (lo := lo) (y := y) (s := s) (by rw [two64]; exact hl) (by omega) (by rw [two64]; exact hD2) hhy
  obtain ⟨mq, mr⟩ := moved_quot (hi * 2 ^ 64 + lo) y s
  have eu := Nat.div_add_mod ((hi * 2 ^ 64 + lo) * 2 ^ s) (2 ^ 64)
  have el := Nat.mod_lt ((hi * 2 ^ 64 + lo) * 2 ^ s) (show 0 < 2 ^ 64 by decide)
  have x3 : bits .or .u64 (IntKind.u64.wrap ((hi : Int) * 2 ^ s)) ((lo : Int) / 2 ^ (64 - s)) = (((hi * 2 ^ 64 + lo) * 2 ^ s / 2 ^ 64 : Nat) : Int) := by
    rw [← m1, cast_pow, cast_dpow]
    have hz : hi * 2 ^ s < 18446744073709551616 := Nat.lt_trans (Nat.mul_lt_mul_of_pos_right hhy (Nat.two_pow_pos s)) hD2
    rw [wrap_small hz, u64_or_nat _ _ hz (Nat.lt_of_le_of_lt (Nat.div_le_self _ _) hl), Nat.mod_eq_of_lt (by rw [two64]; exact hz)]
  have x4 : IntKind.u64.wrap ((lo : Int) * 2 ^ s) = (((hi * 2 ^ 64 + lo) * 2 ^ s % 2 ^ 64 : Nat) : Int) := by
    rw [← m3, cast_pow, wrap_u64, two64, Int.natCast_emod]; rfl
  rw [two64] at *
  generalize (hi * 18446744073709551616 + lo) / y = QQ at *
  generalize (hi * 18446744073709551616 + lo) % y = RR at *
  generalize (hi * 18446744073709551616 + lo) * 2 ^ s = N at *
  obtain ⟨u, hu⟩ : ∃ u, N / 18446744073709551616 = u := ⟨_, rfl⟩
  obtain ⟨L, hL⟩ : ∃ L, N % 18446744073709551616 = L := ⟨_, rfl⟩
  rw [hu] at x3 m2 eu
  rw [hL] at x4 el eu
  clear m1 m3 hu hL
  have xD : IntKind.u64.wrap ((y : Int) * 2 ^ s) = ((y * 2 ^ s : Nat) : Int) := by rw [cast_pow]; exact wrap_small hD2
  generalize y * 2 ^ s = D at *
  have hH := halves_of hD1 hD2
  have hc0 := Nat.mod_lt L (show 0 < 4294967296 by decide)
  have hc1 : L / 4294967296 < 4294967296 := by omega
  have hsum : L / 4294967296 * 4294967296 + L % 4294967296 = L := by omega
  have D0 : 0 < D := by omega
  obtain ⟨z1, z2⟩ := halves_quot (u := u) (c1 := L / 4294967296) (c0 := L % 4294967296) D0
  rw [hsum, show u * 18446744073709551616 + L = N from (by rw [Nat.mul_comm]; exact eu), mq] at z1
  rw [hsum, show u * 18446744073709551616 + L = N from (by rw [Nat.mul_comm]; exact eu)] at z2
  rw [← z2] at mr
  have r1 := Nat.mod_lt (u * 4294967296 + L / 4294967296) D0
  have rest1 := guess_rest (u := u) (c := L / 4294967296) hD2 D0
  have rest2 := guess_rest (u := (u * 4294967296 + L / 4294967296) % D) (c := L % 4294967296) hD2 D0
  have q1 := guess_lt m2 hc1
  have q0 := guess_lt r1 hc0
  obtain ⟨Q1, hQ1⟩ : ∃ z, (u * 4294967296 + L / 4294967296) / D = z := ⟨_, rfl⟩
  rw [hQ1] at z1 rest1 q1
  obtain ⟨R1, hR1⟩ : ∃ z, (u * 4294967296 + L / 4294967296) % D = z := ⟨_, rfl⟩
  rw [hR1] at z1 mr rest1 rest2 r1 q0
  obtain ⟨Q0, hQ0⟩ : ∃ z, (R1 * 4294967296 + L % 4294967296) / D = z := ⟨_, rfl⟩
  rw [hQ0] at z1 rest2 q0
  obtain ⟨R0, hR0⟩ : ∃ z, (R1 * 4294967296 + L % 4294967296) % D = z := ⟨_, rfl⟩
  rw [hR0] at mr rest2
  obtain ⟨U1, f1⟩ := wrap_nat ((u : Int) * 4294967296)
  obtain ⟨U2, f2⟩ := wrap_nat ((U1 : Int) + ((L / 4294967296 : Nat) : Int))
  obtain ⟨U3, f3⟩ := wrap_nat ((Q1 : Int) * (D : Int))
  obtain ⟨V2, g3⟩ := wrap_nat ((R1 : Int) * 4294967296)
  obtain ⟨V3, g4⟩ := wrap_nat ((V2 : Int) + ((L % 4294967296 : Nat) : Int))
  obtain ⟨V4, g5⟩ := wrap_nat ((Q0 : Int) * (D : Int))
  rw [f1, f2, f3] at rest1
  rw [g3, g4, g5] at rest2
  obtain ⟨a1, a2, a3⟩ := guess_letters (u := u) (d := D / 4294967296) (by omega)
  obtain ⟨b1, b2, b3⟩ := guess_letters (u := R1) (d := D / 4294967296) (by omega)
  refine div64_walk hi lo y s D (D / 4294967296) (D % 4294967296) u L (L / 4294967296) (L % 4294967296) _ _ _ Q1 U1 U2 U3 R1 _ _ _ Q0 (Q1 * 4294967296) V2 V3 V4 R0 QQ RR w (by omega) (by omega) hhy
    (Lib.hid fun w => (Try.bits_LeadingZeros64 _ w (by omega) (by omega)).mono fun _ _ ⟨h1, h2⟩ => ⟨by rw [h1, Int.toNat_natCast, hLZ, show (64 - ((k + 1 : Nat) : Int)) = (s : Nat) from by omega], h2.symm⟩)
    xD (by omega) (low_half hD2) (by omega) x3 x4 (by omega) (low_half el) a1 a2 a3 (Lib.hid hH) (Lib.hid ⟨m2, hc1⟩) (Lib.hid (guess_start hH m2 hc1)) (Lib.hid hQ1) f1 f2 f3 rest1 b1 b2 b3
    (Lib.hid ⟨r1, hc0⟩) (Lib.hid (guess_start hH r1 hc0)) (Lib.hid hQ0) ?_ ?_ g3 g4 g5 rest2 ?_
  · rw [← wrap_small (show Q1 * 4294967296 < 18446744073709551616 by omega)]; rfl
  · rw [← z1]; exact wrap_small (n := Q1 * 4294967296 + Q0) (by omega)
  · rw [cast_dpow, mr]
end Go.Proofs.Ythmaijmjhfngpaa
