/- Plain facts on positions of a forest: rows, begins, offsets, powers of two. No program. -/
import Derived.Lib.BitFns
import Derived.IntWalk
import Derived.Laws.BitsAllLaws
import Derived.Laws.BitsLemmas
namespace Go.Proofs.Ytnokhajjcjfbpaa
open Go.RowKit

theorem pw_pos (n : Nat) : 0 < 2 ^ n := Nat.two_pow_pos n
theorem pw_succ (n : Nat) : 2 ^ (n + 1) = 2 * 2 ^ n := by rw [Nat.pow_succ]; omega
theorem pw_le {a b : Nat} (h : a ≤ b) : 2 ^ a ≤ 2 ^ b := Nat.pow_le_pow_right (by omega) h
theorem pw_63 {R : Nat} (h : R ≤ 63) : 2 ^ R ≤ 9223372036854775808 := by
  have := pw_le (a := R) (b := 63) h
  have e : 2 ^ 63 = 9223372036854775808 := by decide
  omega

/-- The begin of a row. -/
def beg (r R : Nat) : Nat := 2 ^ (R + 1) - 2 ^ (R + 1 - r)
/-- The row of a position. -/
def rowOf (p R : Nat) : Nat := R - Nat.log2 (2 ^ (R + 1) - 1 - p)

theorem rowOf_spec {p R : Nat} (h : p + 1 < 2 ^ (R + 1)) : rowOf p R ≤ R ∧ 2 ^ (R - rowOf p R) ≤ 2 ^ (R + 1) - 1 - p ∧ 2 ^ (R + 1) - 1 - p < 2 ^ (R - rowOf p R + 1) := by
  unfold rowOf
  generalize hq : 2 ^ (R + 1) - 1 - p = q
  have q0 : q ≠ 0 := by omega
  have l1 := Nat.log2_self_le q0
  have l2 : q < 2 ^ (Nat.log2 q + 1) := Nat.lt_log2_self
  have l3 : Nat.log2 q ≤ R := by
    have : Nat.log2 q < R + 1 := (Nat.log2_lt q0).2 (by omega)
    omega
  have e : R - (R - Nat.log2 q) = Nat.log2 q := by omega
  rw [e]
  exact ⟨by omega, l1, l2⟩

theorem rowOf_eq {p R r : Nat} (hr : r ≤ R) (h1 : 2 ^ (R - r) ≤ 2 ^ (R + 1) - 1 - p) (h2 : 2 ^ (R + 1) - 1 - p < 2 ^ (R - r + 1)) : rowOf p R = r := by
  unfold rowOf
  have q0 : 2 ^ (R + 1) - 1 - p ≠ 0 := by have := pw_pos (R - r); omega
  have : Nat.log2 (2 ^ (R + 1) - 1 - p) = R - r := (Nat.log2_eq_iff q0).2 ⟨h1, h2⟩
  omega

/-- A position by its row and offset. -/
theorem rowOf_beg {R r o : Nat} (hr : r ≤ R) (ho : o < 2 ^ (R - r)) : rowOf (beg r R + o) R = r := by
  have e : R + 1 - r = (R - r) + 1 := by omega
  have := pw_succ (R - r)
  have := pw_le (a := R - r + 1) (b := R + 1) (by omega)
  unfold beg
  rw [e]
  exact rowOf_eq hr (by omega) (by omega)

theorem beg_le {p R : Nat} (h : p + 1 < 2 ^ (R + 1)) : beg (rowOf p R) R ≤ p ∧ p < beg (rowOf p R) R + 2 ^ (R - rowOf p R) := by
  obtain ⟨h1, h2, h3⟩ := rowOf_spec h
  have e : R + 1 - rowOf p R = (R - rowOf p R) + 1 := by omega
  have := pw_succ (R - rowOf p R)
  have := pw_le (a := R - rowOf p R + 1) (b := R + 1) (by omega)
  unfold beg
  rw [e]
  omega

theorem bitLen_eq {x k : Nat} (hk : k < 64) (h1 : 2 ^ k ≤ x) (h2 : x < 2 ^ (k + 1)) : Lib.bitLen x = k + 1 := by
  have := pw_succ k
  have hx : x < 2 ^ 64 := Nat.lt_of_lt_of_le h2 (pw_le (by omega))
  rw [Lib.bitLen_shift k x h1 hx]
  have : x / 2 ^ k = 1 := by
    apply Nat.div_eq_of_lt_le <;> omega
  rw [this]
  rfl

theorem ones_xor (x : Nat) (hx : (x : Int) ≤ 18446744073709551615) : bits .xor .u64 IntKind.u64.max (x : Int) = ((18446744073709551615 - x : Nat) : Int) := by
  show IntKind.u64.wrap ((BitVec.ofInt 64 (18446744073709551615 : Int) ^^^ BitVec.ofInt 64 (x : Int)).toNat : Int) = _
  have e : BitVec.ofInt 64 (18446744073709551615 : Int) = BitVec.allOnes 64 := by decide
  have e2 : BitVec.ofInt 64 (x : Int) = BitVec.ofNat 64 x := by rw [BitVec.ofInt_natCast]
  rw [e, e2, BitVec.allOnes_xor, BitVec.toNat_not, BitVec.toNat_ofNat, Nat.mod_eq_of_lt (by omega)]
  rw [IntWalk.u64_in _ (by omega)]

theorem wrap_nat (x : Nat) (hx : (x : Int) ≤ 18446744073709551615) : IntKind.u64.wrap (x : Int) = x := IntWalk.u64_in _ (by omega)

/-- What 'LeadingZeros64(^(p << (63 - R)))' comes to. -/
theorem row_bits {p R : Nat} (hR : R ≤ 63) (h : p + 1 < 2 ^ (R + 1)) :
    (64 : Int) - (Lib.bitLen (bits .xor .u64 IntKind.u64.max (IntKind.u64.wrap ((p : Int) * 2 ^ (63 - R)))).toNat : Int) = (rowOf p R : Nat) := by
  have hpw : 2 ^ (R + 1) * 2 ^ (63 - R) = 2 ^ 64 := by rw [← Nat.pow_add]; congr 1; omega
  have hm : (p + 2) * 2 ^ (63 - R) ≤ 2 ^ 64 := by rw [← hpw]; exact Nat.mul_le_mul_right _ (by omega)
  have hm' : p * 2 ^ (63 - R) + 2 * 2 ^ (63 - R) ≤ 2 ^ 64 := by rw [← Nat.add_mul]; exact hm
  have h64 : (2 : Nat) ^ 64 = 18446744073709551616 := by decide
  have hpos := pw_pos (63 - R)
  have e1 : (p : Int) * 2 ^ (63 - R) = ((p * 2 ^ (63 - R) : Nat) : Int) := by rw [Int.natCast_mul, Int.natCast_pow]; rfl
  rw [e1, wrap_nat _ (by omega), ones_xor _ (by omega), Int.toNat_natCast]
  obtain ⟨h1, h2, h3⟩ := rowOf_spec h
  generalize hr : rowOf p R = r at *
  -- q = 2^(R+1) - 1 - p, y = (q + 1) * 2^(63-R) - 1
  have ey : 18446744073709551615 - p * 2 ^ (63 - R) = (2 ^ (R + 1) - 1 - p + 1) * 2 ^ (63 - R) - 1 := by
    have : 2 ^ (R + 1) - 1 - p + 1 = 2 ^ (R + 1) - p := by omega
    rw [this, Nat.sub_mul, hpw]
    omega
  rw [ey]
  generalize 2 ^ (R + 1) - 1 - p = q at *
  have hk : 2 ^ (R - r) * 2 ^ (63 - R) = 2 ^ (63 - r) := by rw [← Nat.pow_add]; congr 1; omega
  have hk1 : 2 ^ (R - r + 1) * 2 ^ (63 - R) = 2 ^ (63 - r + 1) := by rw [← Nat.pow_add]; congr 1; omega
  have l1 : 2 ^ (R - r) * 2 ^ (63 - R) ≤ q * 2 ^ (63 - R) := Nat.mul_le_mul_right _ h2
  have l2 : (q + 1) * 2 ^ (63 - R) ≤ 2 ^ (R - r + 1) * 2 ^ (63 - R) := Nat.mul_le_mul_right _ (by omega)
  have l3 : (q + 1) * 2 ^ (63 - R) = q * 2 ^ (63 - R) + 2 ^ (63 - R) := by rw [Nat.add_mul, Nat.one_mul]
  rw [bitLen_eq (k := 63 - r) (by omega) (by omega) (by omega)]
  omega

/-- 'uint64(2) << R - 1': all positions. -/
theorem all_pos {R : Nat} (hR : R ≤ 63) : IntKind.u64.wrap (IntKind.u64.wrap (2 * 2 ^ R) - 1) = ((2 ^ (R + 1) - 1 : Nat) : Int) := by
  have h64 : (2 : Nat) ^ 64 = 18446744073709551616 := by decide
  have e : (2 : Int) * 2 ^ R = ((2 ^ (R + 1) : Nat) : Int) := by rw [pw_succ, Int.natCast_mul, Int.natCast_pow]; rfl
  rw [e]
  by_cases h : R = 63
  · subst h; decide
  · have := pw_le (a := R + 1) (b := 63) (by omega)
    have e63 : (2 : Nat) ^ 63 = 9223372036854775808 := by decide
    have := pw_pos (R + 1)
    rw [wrap_nat _ (by omega), IntWalk.u64_in _ (by omega)]
    omega

/-- 'uint64(2) << R - uint64(2) << (R - r)'. -/
theorem beg_wrap {r R : Nat} (hr : r ≤ R) (hR : R ≤ 63) : IntKind.u64.wrap (IntKind.u64.wrap (2 * 2 ^ R) - IntKind.u64.wrap (2 * 2 ^ (R - r))) = ((beg r R : Nat) : Int) := by
  have e : ∀ n : Nat, (2 : Int) * 2 ^ n = ((2 ^ (n + 1) : Nat) : Int) := fun n => by rw [pw_succ, Int.natCast_mul, Int.natCast_pow]; rfl
  rw [e, e]
  have e1 : R + 1 - r = R - r + 1 := by omega
  unfold beg
  rw [e1]
  have l := pw_le (a := R - r + 1) (b := R + 1) (by omega)
  have p0 := pw_pos (R - r + 1)
  by_cases h : R = 63
  · subst h
    by_cases h0 : r = 0
    · subst h0; decide
    · have l2 := pw_le (a := 63 - r + 1) (b := 63) (by omega)
      have e63 : (2 : Nat) ^ 63 = 9223372036854775808 := by decide
      have e64 : (2 : Nat) ^ (63 + 1) = 18446744073709551616 := by decide
      rw [wrap_nat (2 ^ (63 - r + 1)) (by omega), e64]
      generalize 2 ^ (63 - r + 1) = x at *
      simp only [IntKind.wrap, IntKind.bits, IntKind.signed]
      simp
      omega
  · have l2 := pw_le (a := R + 1) (b := 63) (by omega)
    have e63 : (2 : Nat) ^ 63 = 9223372036854775808 := by decide
    rw [wrap_nat _ (by omega), wrap_nat _ (by omega), IntWalk.u64_in _ (by omega)]
    omega


/-! ### Parents, children, siblings, roots -/
def parOf (p R : Nat) : Nat := p / 2 + 2 ^ R
def leftOf (p R : Nat) : Nat := 2 * p - 2 ^ (R + 1)
def sibOf (p : Nat) : Nat := if p % 2 = 0 then p + 1 else p - 1
def rowsOf (n : Nat) : Nat := Lib.bitLen (n - 1)
def rootOf (n h : Nat) : Nat := beg h (rowsOf n) + n / 2 ^ h / 2 * 2

theorem nat_pow_cast (n : Nat) : ((2 : Int) ^ n) = ((2 ^ n : Nat) : Int) := by rw [Int.natCast_pow]; rfl
theorem par_bits {p R : Nat} (hR : R ≤ 63) (h : p + 2 < 2 ^ (R + 1)) : bits .or .u64 ((p : Int) / 2) (IntKind.u64.wrap (2 ^ R)) = ((parOf p R : Nat) : Int) := by
  have l := pw_63 hR
  have hs := pw_succ R
  rw [nat_pow_cast, wrap_nat _ (by omega), show (p : Int) / 2 = ((p / 2 : Nat) : Int) from by omega, u64_or_nat _ _ (by omega) (by omega)]
  have := Nat.two_pow_add_eq_or_of_lt (i := R) (b := p / 2) (by omega) 1
  rw [Nat.mul_one] at this
  rw [Nat.or_comm, ← this]
  unfold parOf
  rw [Nat.add_comm]
theorem left_bits {p R : Nat} (hR : R ≤ 63) (h : p + 1 < 2 ^ (R + 1)) (h0 : 2 ^ R ≤ p) :
    bits .and .u64 (IntKind.u64.wrap ((p : Int) * 2)) (IntKind.u64.wrap (IntKind.u64.wrap (2 * 2 ^ R) - 1)) = ((leftOf p R : Nat) : Int) := by
  have l := pw_63 hR
  have hs := pw_succ R
  have e : IntKind.u64.wrap ((p : Int) * 2) = ((2 * p % 18446744073709551616 : Nat) : Int) := by
    simp only [IntKind.wrap, IntKind.bits, IntKind.signed]; simp; omega
  rw [e, all_pos hR, u64_and_nat _ _ (by omega) (by omega), Nat.and_two_pow_sub_one_eq_mod]
  have e2 : 2 * p % 18446744073709551616 % 2 ^ (R + 1) = 2 * p % 2 ^ (R + 1) := by
    apply Nat.mod_mod_of_dvd
    rw [show 18446744073709551616 = 2 ^ 64 from by decide]
    exact Nat.pow_dvd_pow 2 (by omega)
  rw [e2]
  unfold leftOf
  rw [Nat.mod_eq_sub_mod (by omega), Nat.mod_eq_of_lt (by omega)]
theorem xor_one (p : Nat) : p ^^^ 1 = sibOf p := by
  unfold sibOf
  have h1 : (p ^^^ 1) / 2 = p / 2 := by rw [Nat.xor_div_two]; simp
  have h2 : (p ^^^ 1) % 2 = (p % 2) ^^^ (1 % 2) := Nat.xor_mod_two_pow (a := p) (b := 1) (n := 1)
  split
  · rename_i h
    rw [h, show (0 : Nat) ^^^ (1 % 2) = 1 from by decide] at h2
    omega
  · have h : p % 2 = 1 := by omega
    rw [h, show (1 : Nat) ^^^ (1 % 2) = 0 from by decide] at h2
    omega
theorem sib_bits {p : Nat} (h : (p : Int) ≤ 18446744073709551615) : bits .xor .u64 (p : Int) 1 = ((sibOf p : Nat) : Int) := by
  rw [show (1 : Int) = ((1 : Nat) : Int) from rfl, u64_xor_nat _ _ (by omega) (by omega), xor_one]
theorem and_one_bits {p : Nat} (h : (p : Int) ≤ 18446744073709551615) : bits .and .u64 (p : Int) 1 = ((p % 2 : Nat) : Int) := by
  rw [show (1 : Int) = ((1 : Nat) : Int) from rfl, u64_and_nat _ _ (by omega) (by omega), nat_mask1]

theorem rowOf_top {p R : Nat} (h : p + 2 < 2 ^ (R + 1)) : rowOf p R < R := by
  obtain ⟨h1, h2, h3⟩ := rowOf_spec (p := p) (R := R) (by omega)
  rcases Nat.lt_or_ge (rowOf p R) R with h4 | h4
  · exact h4
  · have : R - rowOf p R = 0 := by omega
    rw [this] at h3
    simp at h3
    omega
theorem rowOf_last {p R : Nat} (h : p + 2 = 2 ^ (R + 1)) : rowOf p R = R := by
  apply rowOf_eq (by omega) <;> simp <;> omega
theorem rowOf_low {p R : Nat} (h : p + 1 < 2 ^ (R + 1)) : rowOf p R = 0 ↔ p < 2 ^ R := by
  have hs := pw_succ R
  obtain ⟨h1, h2, h3⟩ := rowOf_spec h
  constructor
  · intro e
    rw [e] at h2
    simp at h2
    omega
  · intro e
    exact rowOf_eq (by omega) (by simp; omega) (by simp; omega)

theorem bitLen_lt {x : Nat} (hx : x < 2 ^ 64) : x < 2 ^ Lib.bitLen x := by
  by_cases h0 : x = 0
  · subst h0; exact pw_pos _
  · have l1 := Nat.log2_self_le h0
    have l2 : x < 2 ^ (Nat.log2 x + 1) := Nat.lt_log2_self
    have : Nat.log2 x < 64 := (Nat.log2_lt h0).2 hx
    rw [bitLen_eq this l1 l2]
    exact l2
theorem le_bitLen {x k : Nat} (hx : x < 2 ^ 64) (h : 2 ^ k ≤ x) : k < Lib.bitLen x := by
  have := bitLen_lt hx
  exact (Nat.pow_lt_pow_iff_right (by omega)).1 (Nat.lt_of_le_of_lt h this)
theorem rows_le {n : Nat} (h : n ≤ 9223372036854775808) : rowsOf n ≤ 63 := by
  have e : (2 : Nat) ^ 63 = 9223372036854775808 := by decide
  exact Lib.bitLen_le _ 63 (by omega) (by omega)
theorem rows_ge {n : Nat} (h : n ≤ 9223372036854775808) : n ≤ 2 ^ rowsOf n := by
  have := bitLen_lt (x := n - 1) (by omega)
  unfold rowsOf
  omega
/-- R is the least with n ≤ 2^R. -/
theorem rows_least {n r : Nat} (h : n ≤ 9223372036854775808) (hr : n ≤ 2 ^ r) : rowsOf n ≤ r := by
  rcases Nat.lt_or_ge r (rowsOf n) with h1 | h1
  · exfalso
    unfold rowsOf at h1
    by_cases h0 : n - 1 = 0
    · rw [h0] at h1
      have : Lib.bitLen 0 = 0 := by decide
      omega
    · have l1 := Nat.log2_self_le h0
      have l2 : n - 1 < 2 ^ (Nat.log2 (n - 1) + 1) := Nat.lt_log2_self
      have : Nat.log2 (n - 1) < 64 := (Nat.log2_lt h0).2 (by omega)
      rw [bitLen_eq this l1 l2] at h1
      have := pw_le (a := r) (b := Nat.log2 (n - 1)) (by omega)
      omega
  · exact h1

/-- A bit that is set: its height is at most the rows; the root's place is in the row. -/
theorem bit_row {n h : Nat} (hn : n ≤ 9223372036854775807) (hb : n / 2 ^ h % 2 = 1) : h ≤ rowsOf n ∧ n / 2 ^ h / 2 * 2 < 2 ^ (rowsOf n - h) := by
  have g := rows_ge (n := n) (by omega)
  have hp := pw_pos h
  have h1 : 1 ≤ n / 2 ^ h := by
    generalize n / 2 ^ h = x at hb
    omega
  have h2 : 2 ^ h ≤ n := by
    have := Nat.div_mul_le_self n (2 ^ h)
    have : 1 * 2 ^ h ≤ n / 2 ^ h * 2 ^ h := Nat.mul_le_mul_right _ h1
    omega
  have h3 : h ≤ rowsOf n := (Nat.pow_le_pow_iff_right (by omega)).1 (Nat.le_trans h2 g)
  refine ⟨h3, ?_⟩
  have e : 2 ^ rowsOf n = 2 ^ (rowsOf n - h) * 2 ^ h := by rw [← Nat.pow_add]; congr 1; omega
  have : n / 2 ^ h ≤ 2 ^ (rowsOf n - h) := by
    rw [e] at g
    have := Nat.div_le_div_right (c := 2 ^ h) g
    rwa [Nat.mul_div_cancel _ hp] at this
  omega
theorem beg_lt {r R o : Nat} (hr : r ≤ R) (ho : o < 2 ^ (R - r)) : beg r R + o + 1 < 2 ^ (R + 1) := by
  have e : R + 1 - r = (R - r) + 1 := by omega
  have := pw_succ (R - r)
  have := pw_le (a := R - r + 1) (b := R + 1) (by omega)
  unfold beg
  rw [e]
  omega

/-! ### Trees, remapped positions, one below another -/
def HasTree (n : Nat) (h : Int) : Prop := n ≤ 9223372036854775807 ∧ 0 ≤ h ∧ n / 2 ^ h.toNat % 2 = 1
/-- A position's offset in its row. -/
def offOf (p R : Nat) : Nat := p - beg (rowOf p R) R
def remapOf (p R T : Nat) : Nat := beg (rowOf p R) T + offOf p R
def CanRemap (p R T : Nat) : Prop := rowOf p R ≤ T ∧ offOf p R < 2 ^ (T - rowOf p R)
def Below_ (a b R : Nat) : Prop := rowOf a R < rowOf b R ∧ offOf a R / 2 ^ (rowOf b R - rowOf a R) = offOf b R
instance (a b R : Nat) : Decidable (Below_ a b R) := by unfold Below_; infer_instance

theorem offOf_lt {p R : Nat} (h : p + 1 < 2 ^ (R + 1)) : offOf p R < 2 ^ (R - rowOf p R) := by
  have := beg_le h
  unfold offOf
  omega
theorem beg_off {p R : Nat} (h : p + 1 < 2 ^ (R + 1)) : beg (rowOf p R) R + offOf p R = p := by
  have := beg_le h
  unfold offOf
  omega
theorem p_u64 {p R : Nat} (hR : R ≤ 63) (h : p + 1 < 2 ^ (R + 1)) : (p : Int) ≤ 18446744073709551614 := by
  have := pw_63 hR
  have := pw_succ R
  omega
theorem beg_u64 {r R : Nat} (hR : R ≤ 63) : beg r R + 1 < 18446744073709551616 + 1 := by
  have := pw_63 hR
  have := pw_succ R
  have := pw_pos (R + 1 - r)
  unfold beg
  omega
theorem shr_nat (x k : Nat) : (x : Int) / 2 ^ k = ((x / 2 ^ k : Nat) : Int) := by rw [nat_pow_cast]; rfl
theorem shr_one_bits {n h : Nat} (hn : (n : Int) ≤ 18446744073709551615) : bits .and .u64 ((n : Int) / 2 ^ h) 1 = ((n / 2 ^ h % 2 : Nat) : Int) := by
  rw [shr_nat]
  have := Nat.div_le_self n (2 ^ h)
  exact and_one_bits (by omega)

theorem root_wrap {n h : Nat} (hn : (n : Int) ≤ 9223372036854775807) (hb : n / 2 ^ h % 2 = 1) :
    IntKind.u64.wrap (((beg h (rowsOf n) : Nat) : Int) + IntKind.u64.wrap ((n : Int) / 2 ^ h / 2 * 2)) = ((rootOf n h : Nat) : Int) := by
  obtain ⟨h1, h2⟩ := bit_row (n := n) (h := h) (by omega) hb
  have hr := rows_le (n := n) (by omega)
  have l := beg_lt h1 h2
  have := p_u64 hr l
  have e : (n : Int) / 2 ^ h / 2 * 2 = ((n / 2 ^ h / 2 * 2 : Nat) : Int) := by rw [shr_nat]; omega
  rw [e, wrap_nat _ (by omega)]
  unfold rootOf
  rw [IntWalk.u64_in _ (by omega)]
  omega
theorem off_wrap {p R : Nat} (hR : R ≤ 63) (h : p + 1 < 2 ^ (R + 1)) : IntKind.u64.wrap ((p : Int) - ((beg (rowOf p R) R : Nat) : Int)) = ((offOf p R : Nat) : Int) := by
  have := p_u64 hR h
  have := beg_off h
  rw [IntWalk.u64_in _ (by omega)]
  omega
theorem remap_wrap {p R T : Nat} (hT : T ≤ 63) (hc : CanRemap p R T) : IntKind.u64.wrap (((beg (rowOf p R) T : Nat) : Int) + ((offOf p R : Nat) : Int)) = ((remapOf p R T : Nat) : Int) := by
  obtain ⟨h1, h2⟩ := hc
  have l := beg_lt h1 h2
  have := p_u64 hT l
  unfold remapOf
  rw [IntWalk.u64_in _ (by omega)]
  omega

/-! ### Powers, as the reference makes them -/
def pw (n : Nat) : Nat := 2 ^ n
theorem pw_zero : pw 0 = 1 := rfl
theorem pw_next (n : Nat) : pw (n + 1) = 2 * pw n := pw_succ n
theorem pw_bd {n : Nat} (h : n ≤ 63) : (pw n : Int) ≤ 9223372036854775808 ∧ 1 ≤ (pw n : Int) := by
  have := pw_63 h
  have := pw_pos n
  unfold pw
  omega
theorem pw_half {k n : Nat} (h : k < n) (hn : n ≤ 63) : (pw k : Int) ≤ 4611686018427387904 := by
  have := pw_le (a := k) (b := 62) (by omega)
  have e : (2 : Nat) ^ 62 = 4611686018427387904 := by decide
  unfold pw
  omega
theorem beg_zero (R : Nat) : beg 0 R = 0 := by unfold beg; simp
theorem beg_next {r R : Nat} (h : r ≤ R) : beg (r + 1) R = beg r R + pw (R - r) := by
  have e : R + 1 - r = (R - r) + 1 := by omega
  have e2 : R + 1 - (r + 1) = R - r := by omega
  have := pw_succ (R - r)
  have := pw_le (a := R - r + 1) (b := R + 1) (by omega)
  unfold beg pw
  rw [e, e2]
  omega
theorem beg_all (R : Nat) : beg (R + 1) R = 2 ^ (R + 1) - 1 := by unfold beg; simp
theorem beg_mono {a b R : Nat} (h : a ≤ b) : beg a R ≤ beg b R := by
  have := pw_le (a := R + 1 - b) (b := R + 1 - a) (by omega)
  unfold beg
  omega
theorem beg_bd {r R : Nat} (_h : r ≤ R + 1) (hR : R ≤ 63) : beg r R ≤ 18446744073709551615 := by
  have := pw_63 hR
  have := pw_succ R
  have := pw_pos (R + 1 - r)
  unfold beg
  omega

/-! ### Rows and offsets of parents, children, siblings -/
theorem offOf_beg {R r o : Nat} (hr : r ≤ R) (ho : o < 2 ^ (R - r)) : offOf (beg r R + o) R = o := by
  unfold offOf
  rw [rowOf_beg hr ho]
  omega
/-- A position is its row and offset. -/
theorem pos_ext {p q R : Nat} (hp : p + 1 < 2 ^ (R + 1)) (hq : q + 1 < 2 ^ (R + 1)) (h1 : rowOf p R = rowOf q R) (h2 : offOf p R = offOf q R) : p = q := by
  have a := beg_off hp
  have b := beg_off hq
  rw [h1, h2] at a
  omega
theorem half_lt {r R o : Nat} (hr : r < R) (ho : o < 2 ^ (R - r)) : o / 2 < 2 ^ (R - (r + 1)) := by
  have e : R - r = R - (r + 1) + 1 := by omega
  rw [e, pw_succ] at ho
  omega
theorem beg_double {r R : Nat} (hr : r < R) : 2 * beg (r + 1) R = 2 ^ (R + 1) + beg r R := by
  have e1 : R + 1 - (r + 1) = R - r := by omega
  have e2 : R + 1 - r = R - r + 1 := by omega
  have := pw_succ (R - r)
  have := pw_le (a := R - r + 1) (b := R + 1) (by omega)
  unfold beg
  rw [e1, e2]
  omega
theorem beg_even {r R : Nat} (hr : r < R) : beg r R % 2 = 0 := by
  have h1 := beg_double hr
  have h2 := pw_succ R
  omega
theorem par_eq {p R : Nat} (h : p + 2 < 2 ^ (R + 1)) : parOf p R = beg (rowOf p R + 1) R + offOf p R / 2 := by
  have hr := rowOf_top h
  have h1 := beg_double hr
  have h2 := beg_off (p := p) (R := R) (by omega)
  have h3 := pw_succ R
  have h4 := beg_even hr
  unfold parOf
  omega
theorem par_spec {p R : Nat} (h : p + 2 < 2 ^ (R + 1)) : parOf p R + 1 < 2 ^ (R + 1) ∧ rowOf (parOf p R) R = rowOf p R + 1 ∧ offOf (parOf p R) R = offOf p R / 2 := by
  have hr := rowOf_top h
  have ho := half_lt hr (offOf_lt (p := p) (R := R) (by omega))
  rw [par_eq h]
  exact ⟨beg_lt (by omega) ho, rowOf_beg (by omega) ho, offOf_beg (by omega) ho⟩
theorem left_eq {p R : Nat} (h : p + 1 < 2 ^ (R + 1)) (h0 : 2 ^ R ≤ p) : 1 ≤ rowOf p R ∧ leftOf p R = beg (rowOf p R - 1) R + 2 * offOf p R ∧ 2 * offOf p R + 1 < 2 ^ (R - (rowOf p R - 1)) := by
  have hr := (rowOf_spec h).1
  have h1 : rowOf p R ≠ 0 := fun e => by have := (rowOf_low h).1 e; omega
  have h2 := beg_double (r := rowOf p R - 1) (R := R) (by omega)
  rw [show rowOf p R - 1 + 1 = rowOf p R from by omega] at h2
  have h3 := beg_off h
  have h4 := offOf_lt h
  have h5 := pw_succ (R - rowOf p R)
  rw [show R - rowOf p R + 1 = R - (rowOf p R - 1) from by omega] at h5
  refine ⟨by omega, ?_, by omega⟩
  unfold leftOf
  omega
theorem left_spec {p R : Nat} (h : p + 1 < 2 ^ (R + 1)) (h0 : 2 ^ R ≤ p) :
    leftOf p R + 3 < 2 ^ (R + 1) ∧ rowOf (leftOf p R) R = rowOf p R - 1 ∧ offOf (leftOf p R) R = 2 * offOf p R ∧ rowOf (leftOf p R + 1) R = rowOf p R - 1 ∧ offOf (leftOf p R + 1) R = 2 * offOf p R + 1 := by
  obtain ⟨h1, h2, h3⟩ := left_eq h h0
  have hr := (rowOf_spec h).1
  have hs := pw_succ R
  rw [h2]
  have e : beg (rowOf p R - 1) R + 2 * offOf p R + 1 = beg (rowOf p R - 1) R + (2 * offOf p R + 1) := by omega
  refine ⟨?_, rowOf_beg (by omega) (by omega), offOf_beg (by omega) (by omega), ?_, ?_⟩
  · rw [← h2]; unfold leftOf; omega
  · rw [e]; exact rowOf_beg (by omega) h3
  · rw [e]; exact offOf_beg (by omega) h3
theorem sib_eq {p R : Nat} (h : p + 2 < 2 ^ (R + 1)) : (p % 2 = offOf p R % 2) ∧ sibOf p = beg (rowOf p R) R + (if offOf p R % 2 = 0 then offOf p R + 1 else offOf p R - 1) ∧ (if offOf p R % 2 = 0 then offOf p R + 1 else offOf p R - 1) < 2 ^ (R - rowOf p R) := by
  have hr := rowOf_top h
  have h1 := beg_even hr
  have h2 := beg_off (p := p) (R := R) (by omega)
  have h3 := offOf_lt (p := p) (R := R) (by omega)
  have h4 : 2 ^ (R - rowOf p R) = 2 * 2 ^ (R - rowOf p R - 1) := by
    rw [← pw_succ]
    congr 1
    omega
  have h5 : p % 2 = offOf p R % 2 := by omega
  refine ⟨h5, ?_, ?_⟩
  · unfold sibOf
    rw [h5]
    split <;> omega
  · split <;> omega
theorem sib_spec {p R : Nat} (h : p + 2 < 2 ^ (R + 1)) : sibOf p + 2 < 2 ^ (R + 1) ∧ rowOf (sibOf p) R = rowOf p R ∧ sibOf (sibOf p) = p ∧ sibOf p ≠ p := by
  have hr := rowOf_top h
  have hs := pw_succ R
  obtain ⟨h1, h2, h3⟩ := sib_eq h
  refine ⟨?_, ?_, ?_, ?_⟩
  · unfold sibOf
    split <;> omega
  · rw [h2]
    exact rowOf_beg (by omega) h3
  · unfold sibOf
    split <;> split <;> omega
  · unfold sibOf
    split <;> omega

/-- One step on a way upwards. -/
theorem below_step {a b R : Nat} (ha : a + 2 < 2 ^ (R + 1)) (hb : b + 1 < 2 ^ (R + 1)) : Below_ a b R ↔ (parOf a R = b ∨ Below_ (parOf a R) b R) := by
  obtain ⟨h1, h2, h3⟩ := par_spec ha
  unfold Below_
  rw [h2, h3]
  constructor
  · rintro ⟨l, e⟩
    by_cases hk : rowOf b R = rowOf a R + 1
    · left
      rw [show rowOf b R - rowOf a R = 1 from by omega] at e
      exact pos_ext h1 hb (by omega) (by rw [h3, ← e])
    · right
      refine ⟨by omega, ?_⟩
      rw [show rowOf b R - rowOf a R = 1 + (rowOf b R - (rowOf a R + 1)) from by omega, Nat.pow_add, ← Nat.div_div_eq_div_mul] at e
      exact e
  · rintro (e | ⟨l, e⟩)
    · subst e
      rw [h2, h3]
      refine ⟨by omega, ?_⟩
      rw [show rowOf a R + 1 - rowOf a R = 1 from by omega]
    · refine ⟨by omega, ?_⟩
      rw [show rowOf b R - rowOf a R = 1 + (rowOf b R - (rowOf a R + 1)) from by omega, Nat.pow_add, ← Nat.div_div_eq_div_mul]
      exact e
theorem below_top {a b R : Nat} (ha : a + 2 = 2 ^ (R + 1)) (hb : b + 1 < 2 ^ (R + 1)) : ¬ Below_ a b R := by
  have h1 := rowOf_last ha
  have h2 := (rowOf_spec hb).1
  unfold Below_
  omega

end Go.Proofs.Ytnokhajjcjfbpaa
