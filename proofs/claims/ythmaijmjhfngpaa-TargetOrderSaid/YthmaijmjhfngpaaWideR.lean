/- The reference's functions on numbers of four words: bits, numbers of bits. -/
import Derived.Test.YthmaijmjhfngpaaWideC
namespace Go.Proofs.Ythmaijmjhfngpaa
open Go.RowKit

theorem bit_of_word {a q r : Nat} (hr : r < 64) : bits .and .u64 (((wd a q : Nat) : Int) / 2 ^ r) 1 = (((a.testBit (64 * q + r)).toNat : Nat) : Int) := by
  have e2 : ((wd a q : Nat) : Int) / 2 ^ r = ((wd a q / 2 ^ r : Nat) : Int) := by
    have : (2 : Int) ^ r = ((2 ^ r : Nat) : Int) := by rw [Int.natCast_pow]; rfl
    rw [this]; rfl
  rw [e2, show (1 : Int) = ((1 : Nat) : Int) from rfl, u64_and_nat _ _ (Nat.lt_of_le_of_lt (Nat.div_le_self _ _) (wd_lt a q)) (by omega), nat_mask1]
  have h := wd_bit a q r
  simp [hr] at h
  rw [← h, Nat.testBit_eq_decide_div_mod_eq]
  generalize wd a q / 2 ^ r = x
  by_cases hx : x % 2 = 1
  · simp [hx]
  · have : x % 2 = 0 := by omega
    simp [this]

set_option maxHeartbeats 1000000 in
theorem bit_any (a : Nat) (i : Int) (w : World) (ha : a < w256) : Calls Try.prog 52 #[.agg #[.int .u64 (wd a 0 : Nat), .int .u64 (wd a 1 : Nat), .int .u64 (wd a 2 : Nat), .int .u64 (wd a 3 : Nat)], .int .i64 i] w fun e w' => e = .returned (.bool (bitI a i)) ∧
    w' = w.alloc (.cells #[.int .u64 (wd a 0 : Nat), .int .u64 (wd a 1 : Nat), .int .u64 (wd a 2 : Nat), .int .u64 (wd a 3 : Nat)] 25) := by
  by_cases h0 : i < 0
  · rw [bitI_neg a h0]
    go_enter Try.func52, Try.ntmps52
    go_wp2_with fail
    go_ret
    exact ⟨rfl, rfl⟩
  by_cases h4 : 256 ≤ i
  · have e : bitI a i = false := by
      obtain ⟨k, rfl⟩ := Int.eq_ofNat_of_zero_le (show 0 ≤ i by omega)
      rw [bitI_nat, bit_beyond ha (by omega)]
    rw [e]
    go_enter Try.func52, Try.ntmps52
    go_wp2_with fail
    go_ret
    exact ⟨rfl, rfl⟩
  obtain ⟨q, hq⟩ := Int.eq_ofNat_of_zero_le (show 0 ≤ i / 64 by omega)
  obtain ⟨r, hr⟩ := Int.eq_ofNat_of_zero_le (show 0 ≤ i % 64 by omega)
  have hr64 : r < 64 := by omega
  have e : bitI a i = a.testBit (64 * q + r) := by
    rw [show i = ((64 * q + r : Nat) : Int) from by omega, bitI_nat]
  have hb := bit_of_word (a := a) (q := q) hr64
  have ht : ((((a.testBit (64 * q + r)).toNat : Nat) : Int) == 1) = a.testBit (64 * q + r) := by cases a.testBit (64 * q + r) <;> rfl
  rw [hb.symm] at ht
  have T := Lib.hid e
  have h5 : q = 0 ∨ q = 1 ∨ q = 2 ∨ q = 3 := by omega
  have hw : IntKind.u64.wrap (r : Int) = r := IntWalk.u64_in _ (by omega)
  clear hb e
  rcases h5 with rfl | rfl | rfl | rfl
  all_goals
    go_enter Try.func52, Try.ntmps52
    go_wp2_with fail
    go_ret
    exact ⟨by rw [T.out]; first | rfl | simp, rfl⟩
/-- The number of k bits. -/
def ofBits (f : Nat → Bool) : Nat → Nat
  | 0 => 0
  | k + 1 => ofBits f k + (if f k then 2 ^ k else 0)
theorem ofBits_lt (f : Nat → Bool) (k : Nat) : ofBits f k < 2 ^ k := by
  induction k with
  | zero => simp [ofBits]
  | succ k ih =>
    show ofBits f k + _ < _
    rw [Nat.pow_succ]
    split <;> omega
theorem ofBits_bit (f : Nat → Bool) (k p : Nat) : (ofBits f k).testBit p = (decide (p < k) && f p) := by
  induction k with
  | zero => simp [ofBits]
  | succ k ih =>
    show (ofBits f k + _).testBit p = _
    have hl := ofBits_lt f k
    by_cases hf : f k = true
    · have e := Nat.two_pow_add_eq_or_of_lt hl 1
      rw [Nat.mul_one] at e
      rw [if_pos hf, Nat.add_comm, e, Nat.testBit_or, ih, Nat.testBit_two_pow]
      by_cases h : p = k
      · subst h; simp [hf]
      · by_cases h2 : p < k
        · have : p < k + 1 := by omega
          have h3 : ¬ k = p := by omega
          simp [h2, this, h3]
        · have : ¬ p < k + 1 := by omega
          have h3 : ¬ k = p := by omega
          simp [h2, this, h3]
    · have hf' : f k = false := by simpa using hf
      rw [if_neg hf, Nat.add_zero, ih]
      by_cases h : p = k
      · subst h; simp [hf']
      · by_cases h2 : p < k
        · have : p < k + 1 := by omega
          simp [h2, this]
        · have : ¬ p < k + 1 := by omega
          simp [h2, this]
theorem ofBits_eq {f : Nat → Bool} {a : Nat} (ha : a < w256) (h : ∀ p, p < 256 → f p = a.testBit p) : ofBits f 256 = a := by
  apply Nat.eq_of_testBit_eq
  intro p
  rw [ofBits_bit]
  by_cases hp : p < 256
  · simp [hp, h p hp]
  · rw [bit_beyond ha (by omega)]; simp [hp]
theorem ofBits_same (f : Nat → Bool) {k j : Nat} (h : f k = false ∨ ¬ (64 * j ≤ k ∧ k < 64 * j + 64)) : wd (ofBits f (k + 1)) j = wd (ofBits f k) j := by
  apply Nat.eq_of_testBit_eq
  intro t
  rw [wd_bit, wd_bit, ofBits_bit, ofBits_bit]
  by_cases ht : t < 64
  · simp only [ht, decide_true, Bool.true_and]
    by_cases he : 64 * j + t = k
    · rcases h with h | h
      · rw [he, h]; simp
      · omega
    · by_cases h2 : 64 * j + t < k
      · have : 64 * j + t < k + 1 := by omega
        simp [h2, this]
      · have : ¬ 64 * j + t < k + 1 := by omega
        simp [h2, this]
  · simp [ht]
theorem ofBits_set {f : Nat → Bool} {q r : Nat} (hr : r < 64) (h : f (64 * q + r) = true) :
    bits .or .u64 ((wd (ofBits f (64 * q + r)) q : Nat) : Int) (IntKind.u64.wrap (2 ^ r)) = ((wd (ofBits f (64 * q + r + 1)) q : Nat) : Int) := by
  have e : (2 : Int) ^ r = ((2 ^ r : Nat) : Int) := by rw [Int.natCast_pow]; rfl
  have hl : 2 ^ r ≤ 2 ^ 63 := Nat.pow_le_pow_right (by omega) (by omega)
  have h63 : (2 : Nat) ^ 63 = 9223372036854775808 := by decide
  have hwr : IntKind.u64.wrap ((2 ^ r : Nat) : Int) = ((2 ^ r : Nat) : Int) := by
    generalize 2 ^ r = z at *
    exact IntWalk.u64_in _ (by omega)
  rw [e, hwr, u64_or_nat _ _ (wd_lt _ _) (by omega)]
  congr 1
  apply Nat.eq_of_testBit_eq
  intro t
  rw [Nat.testBit_or, wd_bit, wd_bit, ofBits_bit, ofBits_bit, Nat.testBit_two_pow]
  by_cases ht : t < 64
  · simp only [ht, decide_true, Bool.true_and]
    by_cases he : t = r
    · subst he; simp [h]
    · have h3 : ¬ r = t := by omega
      by_cases h2 : 64 * q + t < 64 * q + r
      · have : 64 * q + t < 64 * q + r + 1 := by omega
        simp [h3, h2, this]
      · have : ¬ 64 * q + t < 64 * q + r + 1 := by omega
        simp [h3, h2, this]
  · have h3 : ¬ r = t := by omega
    simp [ht, h3]

set_option maxRecDepth 100000 in
set_option maxHeartbeats 2000000 in
theorem of_bits (g n c : Nat) (f : Nat → Bool) (w : World) (hn : 256 ≤ n) (hn2 : n ≤ 257) (hg : g < w.heap.size) (hc : ∀ i, i < n → w.cell? ⟨g, i, none⟩ = some (.bool (f i))) :
    Calls Try.prog 53 #[.slice (some ⟨g, 0, none⟩) n c] w (BRet (.agg #[.int .u64 (wd (ofBits f 256) 0 : Nat), .int .u64 (wd (ofBits f 256) 1 : Nat), .int .u64 (wd (ofBits f 256) 2 : Nat), .int .u64 (wd (ofBits f 256) 3 : Nat)]) w) := by
  have HC := Lib.hid hc
  clear hc
  go_enter Try.func53, Try.ntmps53
  go_wp2_with fail
  go_loopw [4] (fun i wr => ∃ k : Nat, k ≤ 256 ∧ i = .int .i64 k ∧ wr = (w.alloc (.cells #[.int .u64 0, .int .u64 0, .int .u64 0, .int .u64 0] 25)).alloc (.cells #[.int .u64 (wd (ofBits f k) 0 : Nat), .int .u64 (wd (ofBits f k) 1 : Nat), .int .u64 (wd (ofBits f k) 2 : Nat), .int .u64 (wd (ofBits f k) 3 : Nat)] 25)) (fun i _ => 256 - (intOf i).toNat)
  case atStart =>
    have z : ∀ j, wd (ofBits f 0) j = 0 := fun j => by simp [ofBits, wd]
    refine ⟨0, by omega, rfl, ?_⟩
    rw [z, z, z, z]
    rfl
  case round =>
    obtain ⟨k, hk, rfl, rfl⟩ := hrel
    by_cases hlt : k < 256
    · obtain ⟨q, r, hq, hr, rfl⟩ : ∃ q r, q < 4 ∧ r < 64 ∧ k = 64 * q + r := ⟨k / 64, k % 64, by omega, by omega, by omega⟩
      have hcell := HC.out (64 * q + r) (by omega)
      have h1 : ((64 * q + r : Nat) : Int) / 64 = q := by omega
      have h2 : ((64 * q + r : Nat) : Int) % 64 = r := by omega
      have hw : IntKind.u64.wrap (r : Int) = r := IntWalk.u64_in _ (by omega)
      have hlen : ((64 * q + r : Nat) : Int) < n := by omega
      have hlt' : ((64 * q + r : Nat) : Int) < 256 := by omega
      generalize hK : 64 * q + r = K at *
      cases hf : f K
      · rw [hf] at hcell
        have E := fun j => ofBits_same f (k := K) (j := j) (.inl hf)
        have HE := Lib.hid E
        clear E hf
        go_wp2_with fail
        exact ⟨⟨K + 1, by omega, by go_num, by rw [HE.out, HE.out, HE.out, HE.out]⟩, by simp [intOf]; omega⟩
      · rw [hf] at hcell
        have hs := ofBits_set (f := f) (q := q) hr (by rw [hK]; exact hf)
        rw [hK] at hs
        have E := fun j (h : ¬ j = q) => ofBits_same f (k := K) (j := j) (.inr (by omega))
        have HE := Lib.hid E
        have HS := Lib.hid hs
        clear hK hf E hs
        have h4 : q = 0 ∨ q = 1 ∨ q = 2 ∨ q = 3 := by omega
        rcases h4 with rfl | rfl | rfl | rfl
        · go_wp2_with fail
          exact ⟨⟨K + 1, by omega, by go_num, by rw [HS.out, HE.out 1 (by omega), HE.out 2 (by omega), HE.out 3 (by omega)]⟩, by simp [intOf]; omega⟩
        · go_wp2_with fail
          exact ⟨⟨K + 1, by omega, by go_num, by rw [HS.out, HE.out 0 (by omega), HE.out 2 (by omega), HE.out 3 (by omega)]⟩, by simp [intOf]; omega⟩
        · go_wp2_with fail
          exact ⟨⟨K + 1, by omega, by go_num, by rw [HS.out, HE.out 0 (by omega), HE.out 1 (by omega), HE.out 3 (by omega)]⟩, by simp [intOf]; omega⟩
        · go_wp2_with fail
          exact ⟨⟨K + 1, by omega, by go_num, by rw [HS.out, HE.out 0 (by omega), HE.out 1 (by omega), HE.out 2 (by omega)]⟩, by simp [intOf]; omega⟩
    · obtain rfl : k = 256 := by omega
      clear hlt hk
      go_wp2_with fail
      all_goals
        exact bodyPost_ret (v := .agg #[.int .u64 (wd (ofBits f 256) 0 : Nat), .int .u64 (wd (ofBits f 256) 1 : Nat), .int .u64 (wd (ofBits f 256) 2 : Nat), .int .u64 (wd (ofBits f 256) 3 : Nat)]) (by simp [results, Try.results53, go_sem]) rfl ⟨rfl, by repeat' (first | exact Below.refl _ _ | refine bel_drewN ?_ _ | refine Below.drew ?_ | refine Below.alloc ?_ ?_ _ | refine Below.setCell ?_ ?_ _ | exact Nat.le_refl _ | (simp; done) | (simp; omega) | assumption)⟩
end Go.Proofs.Ythmaijmjhfngpaa
