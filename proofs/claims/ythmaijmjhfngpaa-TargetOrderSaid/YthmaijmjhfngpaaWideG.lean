/- Numbers of four words: what the law of moves up and down again rests on. -/
import Derived.Test.YthmaijmjhfngpaaWideF
namespace Go.Proofs.Ythmaijmjhfngpaa
open Go.RowKit

theorem shiftN_neg (a : Nat) {k : Nat} (ha : a < w256) : shiftN a (-(k : Int)) = a / 2 ^ k := by
  unfold shiftN
  by_cases h : k = 0
  · subst h; simp; exact Nat.mod_eq_of_lt ha
  · rw [if_neg (by omega)]; congr 2; omega
theorem shiftN_pos (a k : Nat) : shiftN a (k : Int) = a * 2 ^ k % w256 := by
  unfold shiftN
  rw [if_pos (by omega), Int.toNat_natCast]
theorem shiftN_one (a : Nat) : shiftN a 1 = mulN a 2 := shiftN_pos a 1
theorem shiftN_all (a : Nat) (ha : a < w256) : shiftN a (-((bitsN a : Nat) : Int)) = 0 := by
  rw [shiftN_neg a ha]; exact Nat.div_eq_of_lt (bitsN_lt a)
theorem shiftN_of_zero (c : Int) : shiftN 0 c = 0 := by
  unfold shiftN; split <;> simp
theorem shiftN_last {a : Nat} (ha : a < w256) (h : a ≠ 0) : shiftN a (1 - ((bitsN a : Nat) : Int)) = 1 := by
  obtain ⟨k, e, h1, h2⟩ := bitsN_spec h
  rw [e, show (1 : Int) - ((k + 1 : Nat) : Int) = -(k : Int) from by omega, shiftN_neg a ha]
  have := Nat.pow_succ 2 k
  apply Nat.div_eq_of_lt_le <;> omega
theorem up_lt {a n : Nat} (h : bitsN a + n ≤ 256) : a * 2 ^ n < w256 := by
  have h1 := bitsN_lt a
  have h2 : 2 ^ (bitsN a + n) ≤ 2 ^ 256 := Nat.pow_le_pow_right (by omega) h
  rw [Nat.pow_add] at h2
  exact Nat.lt_of_lt_of_le (Nat.mul_lt_mul_of_pos_right h1 (Nat.two_pow_pos n)) h2
theorem up_down {a n : Nat} (h : bitsN a + n ≤ 256) : shiftN (shiftN a (n : Int)) (-(n : Int)) = a := by
  rw [shiftN_pos, Nat.mod_eq_of_lt (up_lt h), shiftN_neg _ (up_lt h), Nat.mul_div_cancel _ (Nat.two_pow_pos n)]
theorem up_bits {a n : Nat} (h0 : a ≠ 0) (h : bitsN a + n ≤ 256) : bitsN (shiftN a (n : Int)) = bitsN a + n := by
  rw [shiftN_pos, Nat.mod_eq_of_lt (up_lt h)]
  obtain ⟨k, e, h1, h2⟩ := bitsN_spec h0
  rw [e, show k + 1 + n = (k + n) + 1 from by omega]
  apply bitsN_eq
  · rw [Nat.pow_add]; exact Nat.mul_le_mul_right _ h1
  · rw [show k + n + 1 = (k + 1) + n from by omega, Nat.pow_add]; exact Nat.mul_lt_mul_of_pos_right h2 (Nat.two_pow_pos n)
theorem low_bits (a n : Nat) (h : n ≤ 256) : bitsN (shiftN (shiftN a (n : Int)) (-(n : Int))) ≤ 256 - n := by
  have hl : shiftN a (n : Int) < w256 := by rw [shiftN_pos]; exact Nat.mod_lt _ (by rw [w256_eq]; decide)
  rw [shiftN_neg _ hl]
  apply bitsN_le
  apply Nat.div_lt_of_lt_mul
  rw [← Nat.pow_add, show n + (256 - n) = 256 from by omega]
  exact hl
theorem words_zero {a : Nat} (ha : a < w256) (h : wd a 0 = 0) (h1 : wd a 1 = 0) (h2 : wd a 2 = 0) (h3 : wd a 3 = 0) : a = 0 := by
  have := wd_sum ha
  rw [h, h1, h2, h3] at this
  omega
theorem eqW_zero {a : Nat} (ha : a < w256) (w : World) : (binOp .eql 25 (.agg #[.int .u64 (wd a 0 : Nat), .int .u64 (wd a 1 : Nat), .int .u64 (wd a 2 : Nat), .int .u64 (wd a 3 : Nat)]) (.agg #[.int .u64 0, .int .u64 0, .int .u64 0, .int .u64 0])).run Try.prog w = .ok (.bool (decide (a = 0))) w := by
  rw [eqW]
  congr 2
  by_cases h : a = 0
  · subst h; simp [wd_zero]
  · rw [decide_eq_false h]
    cases hb : ([((wd a 0 : Nat) : Int), ((wd a 1 : Nat) : Int), ((wd a 2 : Nat) : Int), ((wd a 3 : Nat) : Int)] == [0, 0, 0, 0])
    · rfl
    · simp at hb
      exact absurd (words_zero ha hb.1 hb.2.1 hb.2.2.1 hb.2.2.2) h
theorem neW_same (a0 a1 a2 a3 : Int) (w : World) : (binOp .neq 25 (.agg #[.int .u64 a0, .int .u64 a1, .int .u64 a2, .int .u64 a3]) (.agg #[.int .u64 a0, .int .u64 a1, .int .u64 a2, .int .u64 a3])).run Try.prog w = .ok (.bool false) w := by
  have := run_neq_nums w 25 23 4 .u64 Try.underlying25 Try.underlying23 (fun _ => by kernel_rfl) [a0, a1, a2, a3] [a0, a1, a2, a3] rfl rfl
  simpa using this

/-- The world behind 'a local of four words, its number laid'. -/
def laid (w : World) (S : Nat) : World := w.alloc (.cells #[.int .u64 (wd S 0 : Nat), .int .u64 (wd S 1 : Nat), .int .u64 (wd S 2 : Nat), .int .u64 (wd S 3 : Nat)] 25)
theorem laid_new (w : World) (S : Nat) : IsBlk (laid w S) w.heap.size 25 #[.int .u64 (wd S 0 : Nat), .int .u64 (wd S 1 : Nat), .int .u64 (wd S 2 : Nat), .int .u64 (wd S 3 : Nat)] := IsBlk.new _ _ _
theorem laid_old {w : World} {g : Nat} {T : TypeId} {cs : Array Value} (h : IsBlk w g T cs) (S : Nat) : IsBlk (laid w S) g T cs := h.alloc _
theorem laid_bel {w0 w : World} {B : Nat} (h : Below B w0 w) (hB : B ≤ w.heap.size) (S : Nat) : Below B w0 (laid w S) := h.alloc hB _
theorem bel_on {w b c : World} (h : Below w.heap.size w b) (k : Below b.heap.size b c) : Below w.heap.size w c := h.trans (k.mono h.size)
theorem bel_laid {w b : World} (h : Below w.heap.size w b) (S : Nat) : Below w.heap.size w (laid b S) := laid_bel h h.size S
/-- A walk at a world of which only this is known. -/
theorem wp_gen {P : Program} {c : Code} {Q : Exit → Act → World → Prop} {a : Act} {w : World} (S : World → Prop) (h : S w) (k : ∀ w', S w' → c.wp P Q a w') : c.wp P Q a w := k w h
end Go.Proofs.Ythmaijmjhfngpaa
