/- Plain facts on targets: what bits expand to, compact forms. No program. -/
import Derived.Test.YthmaijmjhfngpaaWideDq
import Derived.Test.YthmaijmjhfngpaaWideG
import Derived.Test.YthmaijmjhfngpaaWideI
namespace Go.Proofs.Ythmaijmjhfngpaa
open Go.RowKit

/-! ### What bits expand to -/
def manB (c : Nat) : Nat := c % 8388608
def expB (c : Nat) : Nat := c / 16777216
def sgnB (c : Nat) : Bool := decide (c / 8388608 % 2 = 1)
def shB (c : Nat) : Int := 8 * ((expB c : Int) - 3)
def rawB (c : Nat) : Nat := shiftN (manB c) (shB c)
/-- Bits that expand to nothing. -/
def badB (c : Nat) : Bool := (decide (manB c ≠ 0) && sgnB c) || decide (rawB c = 0) || decide (256 < shB c + bitsN (manB c))
def xN (c : Nat) : Nat := if badB c then 0 else rawB c
def xE (c : Nat) : Int := if badB c then 11 else 0
theorem manB_lt (c : Nat) : manB c < 8388608 := Nat.mod_lt _ (by decide)
theorem manB_w (c : Nat) : manB c < w256 := by have := manB_lt c; rw [w256_eq]; omega
theorem rawB_lt (c : Nat) : rawB c < w256 := shiftN_lt (manB_w c) _
theorem xN_lt (c : Nat) : xN c < w256 := by
  unfold xN; split
  · rw [w256_eq]; decide
  · exact rawB_lt c
theorem xN_zero (c : Nat) : xN c = 0 ↔ badB c = true := by
  unfold xN
  constructor
  · intro h
    by_cases hb : badB c = true
    · exact hb
    · rw [if_neg hb] at h
      unfold badB at hb
      simp [h] at hb
  · intro h; rw [if_pos h]
theorem xE_ok (c : Nat) : xE c = 0 ↔ badB c = false := by
  unfold xE; cases badB c <;> simp
theorem expB_lt {c : Nat} (h : c < 4294967296) : expB c < 256 := by unfold expB; omega
theorem man_bits {c : Nat} (h : c < 4294967296) : bits .and .u32 (c : Nat) 8388607 = ((manB c : Nat) : Int) := by
  rw [show (8388607 : Int) = ((8388607 : Nat) : Int) from rfl, u32_and_nat _ _ h (by decide), show (8388607 : Nat) = 2 ^ 23 - 1 from by decide, Nat.and_two_pow_sub_one_eq_mod]
  rfl
theorem and_pow (c k : Nat) : c &&& 2 ^ k = 2 ^ k * (c.testBit k).toNat := by
  apply Nat.eq_of_testBit_eq
  intro t
  rw [Nat.testBit_and, Nat.testBit_two_pow]
  by_cases ht : t = k
  · subst ht
    cases c.testBit t <;> simp [Nat.testBit_two_pow]
  · have : ¬ k = t := by omega
    cases c.testBit k <;> simp [this, Nat.testBit_two_pow]
theorem sgn_bits {c : Nat} (h : c < 4294967296) : (bits .and .u32 (c : Nat) 8388608 != 0) = sgnB c := by
  rw [show (8388608 : Int) = ((8388608 : Nat) : Int) from rfl, u32_and_nat _ _ h (by decide), show (8388608 : Nat) = 2 ^ 23 from by decide]
  have e := and_pow c 23
  rw [e]
  unfold sgnB
  rw [show (8388608 : Nat) = 2 ^ 23 from by decide, ← Nat.testBit_eq_decide_div_mod_eq]
  cases c.testBit 23 <;> simp
/-- Multiplied by 256 some times. -/
def grow (m i : Nat) : Nat := m * 256 ^ i
theorem pow256 (i : Nat) : (256 : Nat) ^ i = 2 ^ (8 * i) := by rw [Nat.pow_mul]
theorem raw_up {c : Nat} (h : 3 ≤ expB c) : rawB c = grow (manB c) (expB c - 3) % w256 := by
  unfold rawB shB grow
  rw [show 8 * ((expB c : Int) - 3) = ((8 * (expB c - 3) : Nat) : Int) from by omega, shiftN_up, pow256]
theorem raw_down {c : Nat} (h : expB c ≤ 3) : rawB c = manB c / 256 ^ (3 - expB c) := by
  unfold rawB shB
  rw [show 8 * ((expB c : Int) - 3) = -((8 * (3 - expB c) : Nat) : Int) from by omega, shiftN_neg _ (manB_w c), pow256]
/-- How far a number above 0 reaches when it is moved up. -/
theorem reach {m k : Nat} (hm : m ≠ 0) : 256 < k + bitsN m ↔ w256 ≤ m * 2 ^ k := by
  obtain ⟨b, hb, h1, h2⟩ := bitsN_spec hm
  have hp := Nat.two_pow_pos k
  have g1 : 2 ^ (b + k) ≤ m * 2 ^ k := by rw [Nat.pow_add]; exact Nat.mul_le_mul_right _ h1
  have g2 : m * 2 ^ k < 2 ^ (b + 1 + k) := by rw [Nat.pow_add]; exact Nat.mul_lt_mul_of_pos_right h2 hp
  rw [hb]
  unfold w256
  constructor
  · intro h
    exact Nat.le_trans (Nat.pow_le_pow_right (by omega) (by omega)) g1
  · intro h
    have h3 := Nat.lt_of_le_of_lt h g2
    have := (Nat.pow_lt_pow_iff_right (show 1 < 2 by decide)).1 h3
    omega
/-- Bits that expand to something. -/
theorem good_iff (c : Nat) : badB c = false ↔ ¬ (manB c ≠ 0 ∧ sgnB c = true) ∧ manB c ≠ 0 ∧ rawB c ≠ 0 ∧ (3 ≤ expB c → grow (manB c) (expB c - 3) < w256) := by
  unfold badB
  have hz : manB c = 0 → rawB c = 0 := fun h => by unfold rawB; rw [h, shiftN_of_zero]
  by_cases hm : manB c = 0
  · simp [hm, hz hm]
  by_cases hs : sgnB c = true
  · simp [hm, hs]
  by_cases hr : rawB c = 0
  · simp [hr]
  have hs' : sgnB c = false := by simpa using hs
  simp only [hs', hr, hm]
  simp
  by_cases h3 : 3 ≤ expB c
  · have h := reach (m := manB c) (k := 8 * (expB c - 3)) hm
    unfold grow
    rw [pow256]
    have e : shB c = ((8 * (expB c - 3) : Nat) : Int) := by unfold shB; omega
    rw [e]
    refine ⟨fun hh => ⟨hm, hr, fun _ => ?_⟩, fun ⟨_, _, hh⟩ => ?_⟩
    · have := mt h.2 (by omega : ¬ 256 < 8 * (expB c - 3) + bitsN (manB c))
      omega
    · have := mt h.1 (by have := hh h3; omega)
      omega
  · have hb : bitsN (manB c) ≤ 23 := bitsN_le (manB_lt c)
    have : shB c < 0 := by unfold shB; omega
    refine ⟨fun hh => ⟨hm, hr, fun h => absurd h h3⟩, fun _ => by omega⟩
theorem good_val {c : Nat} (h : badB c = false) : xN c = (if 3 ≤ expB c then grow (manB c) (expB c - 3) else manB c / 256 ^ (3 - expB c)) ∧ xN c ≠ 0 := by
  have hg := (good_iff c).1 h
  have e : xN c = rawB c := by unfold xN; rw [h]; rfl
  refine ⟨?_, by rw [e]; exact hg.2.2.1⟩
  rw [e]
  by_cases h3 : 3 ≤ expB c
  · rw [if_pos h3, raw_up h3, Nat.mod_eq_of_lt (hg.2.2.2 h3)]
  · rw [if_neg h3, raw_down (by omega)]

/-! ### Compact forms -/
/-- How many bytes a compact form tells. -/
def sizB (w : Nat) : Nat := if w = 0 then 0 else bitsN w / 8 + 1
/-- The highest bytes that a compact form tells. -/
def topB (w : Nat) : Nat := shiftN w (8 * (3 - (sizB w : Int)))
def cN (w : Nat) : Nat := sizB w * 16777216 + topB w
theorem bits_div {x k : Nat} (h : k ≤ bitsN x) : bitsN (x / 2 ^ k) = bitsN x - k := by
  by_cases hx : x = 0
  · subst hx; rw [bitsN_zero] at *; simp [bitsN_zero]
  obtain ⟨b, hb, h1, h2⟩ := bitsN_spec hx
  by_cases he : k = b + 1
  · subst he
    rw [Nat.div_eq_of_lt h2, hb, bitsN_zero]; omega
  · rw [hb, show b + 1 - k = (b - k) + 1 from by omega]
    apply bitsN_eq
    · rw [Nat.le_div_iff_mul_le (Nat.two_pow_pos k), ← Nat.pow_add, show b - k + k = b from by omega]; exact h1
    · rw [Nat.div_lt_iff_lt_mul (Nat.two_pow_pos k), ← Nat.pow_add, show b - k + 1 + k = b + 1 from by omega]; exact h2
theorem bits_mul {x k : Nat} (h : x ≠ 0) : bitsN (x * 2 ^ k) = bitsN x + k := by
  obtain ⟨b, hb, h1, h2⟩ := bitsN_spec h
  rw [hb, show b + 1 + k = (b + k) + 1 from by omega]
  apply bitsN_eq
  · rw [Nat.pow_add]; exact Nat.mul_le_mul_right _ h1
  · rw [show b + k + 1 = b + 1 + k from by omega, Nat.pow_add]; exact Nat.mul_lt_mul_of_pos_right h2 (Nat.two_pow_pos k)
theorem bits_le {x : Nat} (h : x < w256) : bitsN x ≤ 256 := bitsN_le h
/-- A number moved down (a count below 0: up) within 256 bits. -/
theorem shift_down {w k : Nat} (hw : w < w256) : shiftN w (-((k : Nat) : Int)) = w / 2 ^ k := shiftN_neg w hw
theorem shift_up {w k : Nat} (h : bitsN w + k ≤ 256) : shiftN w (k : Int) = w * 2 ^ k := by
  rw [shiftN_up, Nat.mod_eq_of_lt (up_lt h)]
/-- The highest three bytes, as they are looked at first: size is the number of bytes. -/
theorem first_top {w : Nat} (hw : w < w256) (h0 : w ≠ 0) :
    let s := (bitsN w + 7) / 8
    let m := shiftN w (-8 * ((s : Int) - 3))
    m < 16777216 ∧ (8388608 ≤ m ↔ bitsN w % 8 = 0) ∧ (bitsN w % 8 = 0 → m / 256 = topB w ∧ s + 1 = sizB w) ∧ (bitsN w % 8 ≠ 0 → m = topB w ∧ s = sizB w) := by
  have hb := bits_le hw
  obtain ⟨b, ebb, h1, h2⟩ := bitsN_spec h0
  have hs : sizB w = bitsN w / 8 + 1 := by unfold sizB; rw [if_neg h0]
  have key : ∀ s : Nat, s ≤ 33 → bitsN w ≤ 8 * s → 8 * s ≤ bitsN w + 8 → bitsN (shiftN w (-8 * ((s : Int) - 3))) = bitsN w + 24 - 8 * s := by
    intro s hs1 hs2 hs3
    by_cases h3 : 3 ≤ s
    · rw [show -8 * ((s : Int) - 3) = -((8 * (s - 3) : Nat) : Int) from by omega, shift_down hw]
      by_cases hk : 8 * (s - 3) ≤ bitsN w
      · rw [bits_div hk]; omega
      · rw [Nat.div_eq_of_lt (Nat.lt_of_lt_of_le (bitsN_lt w) (Nat.pow_le_pow_right (by omega) (by omega))), bitsN_zero]; omega
    · rw [show -8 * ((s : Int) - 3) = ((8 * (3 - s) : Nat) : Int) from by omega, shift_up (by omega), bits_mul h0]; omega
  have hk := key ((bitsN w + 7) / 8) (by omega) (by omega) (by omega)
  intro s m
  have hm : m < 2 ^ bitsN m := bitsN_lt m
  have hbm : bitsN m = bitsN w + 24 - 8 * s := hk
  have p24 : (2 : Nat) ^ 24 = 16777216 := by decide
  have p23 : (2 : Nat) ^ 23 = 8388608 := by decide
  have hsd : s = (bitsN w + 7) / 8 := rfl
  refine ⟨?_, ?_, ?_, ?_⟩
  · rw [← p24]; exact Nat.lt_of_lt_of_le hm (Nat.pow_le_pow_right (by omega) (by omega))
  · constructor
    · intro h
      by_cases h8 : bitsN w % 8 = 0
      · exact h8
      · have := bitsN_le (x := m) (k := 23)
        have h9 : m < 2 ^ 23 := Nat.lt_of_lt_of_le hm (Nat.pow_le_pow_right (by omega) (by omega))
        omega
    · intro h8
      have : bitsN m = 24 := by omega
      rcases Nat.lt_or_ge m 8388608 with hl | hl
      · have := bitsN_le (x := m) (k := 23) (by omega); omega
      · exact hl
  · intro h8
    have hss : s + 1 = sizB w := by rw [hs]; omega
    refine ⟨?_, hss⟩
    unfold topB
    rw [← hss]
    show shiftN w (-8 * ((s : Int) - 3)) / 256 = _
    by_cases h3 : 3 ≤ s
    · rw [show -8 * ((s : Int) - 3) = -((8 * (s - 3) : Nat) : Int) from by omega, shift_down hw, show 8 * (3 - ((s + 1 : Nat) : Int)) = -((8 * (s - 2) : Nat) : Int) from by omega, shift_down hw,
        show (256 : Nat) = 2 ^ 8 from by decide, Nat.div_div_eq_div_mul, ← Nat.pow_add]
      congr 2; omega
    · rw [show -8 * ((s : Int) - 3) = ((8 * (3 - s) : Nat) : Int) from by omega, shift_up (by omega), show 8 * (3 - ((s + 1 : Nat) : Int)) = ((8 * (2 - s) : Nat) : Int) from by omega, shift_up (by omega),
        show 8 * (3 - s) = 8 * (2 - s) + 8 from by omega, Nat.pow_add, ← Nat.mul_assoc, show (256 : Nat) = 2 ^ 8 from by decide, Nat.mul_div_cancel _ (by decide)]
  · intro h8
    have hss : s = sizB w := by rw [hs]; omega
    refine ⟨?_, hss⟩
    unfold topB
    rw [← hss]
    show shiftN w (-8 * ((s : Int) - 3)) = _
    congr 1; omega
theorem topB_lt {w : Nat} (hw : w < w256) : topB w < 8388608 := by
  by_cases h0 : w = 0
  · subst h0; unfold topB; rw [shiftN_of_zero]; decide
  · obtain ⟨h1, h2, h3, h4⟩ := first_top hw h0
    by_cases h8 : bitsN w % 8 = 0
    · have := h3 h8; omega
    · have := h4 h8; have := mt h2.1 h8; omega
theorem sizB_le {w : Nat} (hw : w < w256) : sizB w ≤ 33 := by
  have := bits_le hw
  unfold sizB; split <;> omega
theorem cN_lt {w : Nat} (hw : w < w256) : cN w < 4294967296 := by
  have := topB_lt hw
  have := sizB_le hw
  unfold cN; omega
end Go.Proofs.Ythmaijmjhfngpaa
