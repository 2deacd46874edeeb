/- Compact forms: the walks. -/
import Derived.Test.YthmaijmjhfngpaaTgB
namespace Go.Proofs.Ythmaijmjhfngpaa
open Go.RowKit

theorem or_top {s m : Nat} (hs : s ≤ 33) (hm : m < 16777216) : bits .or .u32 ((s : Int) * 16777216) (m : Nat) = ((s * 16777216 + m : Nat) : Int) := by
  rw [show (s : Int) * 16777216 = ((s * 16777216 : Nat) : Int) from by omega, u32_or_nat _ _ (by omega) (by omega)]
  congr 1
  have p24 : (2 : Nat) ^ 24 = 16777216 := by decide
  have h := Nat.two_pow_add_eq_or_of_lt (i := 24) (b := m) (by rw [p24]; exact hm) s
  rw [p24, Nat.mul_comm] at h
  exact h.symm
theorem and_sign {m : Nat} (hm : m < 16777216) : (bits .and .u32 (m : Nat) 8388608 != 0) = decide (8388608 ≤ m) := by
  rw [sgn_bits (by omega)]
  unfold sgnB
  apply Bool.eq_iff_iff.2
  simp
  omega

set_option maxRecDepth 100000 in
set_option maxHeartbeats 8000000 in
theorem compact_case (a B s S m : Nat) (hi : Bool) (w : World) (hB : B ≤ 256) (hs : s ≤ 32) (hm : m < 16777216)
    (KB : Hid (∀ w, Calls Try.prog 20 #[.agg #[.int .u64 (wd a 0 : Nat), .int .u64 (wd a 1 : Nat), .int .u64 (wd a 2 : Nat), .int .u64 (wd a 3 : Nat)]] w (BRet (.int .i64 (B : Nat)) w)))
    (e1 : ((B : Int) + 8 - 1) / 8 = (s : Nat))
    (KS : Hid (∀ w, Calls Try.prog 30 #[.agg #[.int .u64 (wd a 0 : Nat), .int .u64 (wd a 1 : Nat), .int .u64 (wd a 2 : Nat), .int .u64 (wd a 3 : Nat)], .int .i64 (-8 * ((s : Int) - 3))] w (BRet (.agg #[.int .u64 (wd S 0 : Nat), .int .u64 (wd S 1 : Nat), .int .u64 (wd S 2 : Nat), .int .u64 (wd S 3 : Nat)]) w)))
    (e2 : IntKind.u32.wrap ((wd S 0 : Nat) : Int) = (m : Nat)) (e3 : (bits .and .u32 (m : Nat) 8388608 != 0) = hi) :
    Calls Try.prog 12 #[.agg #[.int .u64 (wd a 0 : Nat), .int .u64 (wd a 1 : Nat), .int .u64 (wd a 2 : Nat), .int .u64 (wd a 3 : Nat)]] w (BRet (.int .u32 (if hi then (s + 1) * 16777216 + m / 256 else s * 16777216 + m : Nat)) w) := by
  have o1 := or_top (s := s) (m := m) (by omega) hm
  have o2 := or_top (s := s + 1) (m := m / 256) (by omega) (by omega)
  cases hi
  · simp only [Bool.false_eq_true, if_false]
    clear o2
    go_enter Try.func12, Try.ntmps12
    go_wp2_with fail
    refine (KB.out _).mono ?_
    rintro e w1 ⟨rfl, hb1⟩
    have hA := (show IsBlk _ w.heap.size 25 #[.int .u64 (wd a 0 : Nat), .int .u64 (wd a 1 : Nat), .int .u64 (wd a 2 : Nat), .int .u64 (wd a 3 : Nat)] from IsBlk.newAt _ _ rfl).after hb1
    have HB1 := Lib.hid ((show Below w.heap.size w _ from by repeat' (first | exact Below.refl _ _ | refine bel_drewN ?_ _ | refine Below.drew ?_ | refine Below.alloc ?_ ?_ _ | refine Below.setCell ?_ ?_ _ | exact Nat.le_refl _ | (simp; done) | (simp; omega) | assumption)).trans (hb1.mono (by simp <;> omega)))
    have x0 := hA.cell 0
    have x1 := hA.cell 1
    have x2 := hA.cell 2
    have x3 := hA.cell 3
    simp at x0 x1 x2 x3
    have frx := hA.free
    have lx := hA.lt
    clear hA hb1
    go_wp2_with fail
    refine (KS.out _).mono ?_
    rintro e w2 ⟨rfl, hb2⟩
    have HB2 := Lib.hid (bel_on HB1.out hb2)
    clear hb2 x0 x1 x2 x3 frx lx
    have ix : ∀ w, (Instr.index 25 (.agg #[.int .u64 (wd S 0 : Nat), .int .u64 (wd S 1 : Nat), .int .u64 (wd S 2 : Nat), .int .u64 (wd S 3 : Nat)]) (.int .i64 0)).run Try.prog w = .ok (.int .u64 (wd S 0 : Nat)) w := fun _ => by kernel_rfl
    go_wp2_with fail
    go_ret
    refine ⟨?_, HB2.out⟩
    congr 2
  · simp only [if_true]
    clear o1
    have e4 : (m : Int) / 256 = ((m / 256 : Nat) : Int) := by omega
    rw [show ((s + 1 : Nat) : Int) = (s : Int) + 1 from by omega] at o2
    generalize hm2 : m / 256 = m2 at *
    have hm3 : m2 < 65536 := by omega
    clear hm2
    go_enter Try.func12, Try.ntmps12
    go_wp2_with fail
    refine (KB.out _).mono ?_
    rintro e w1 ⟨rfl, hb1⟩
    have hA := (show IsBlk _ w.heap.size 25 #[.int .u64 (wd a 0 : Nat), .int .u64 (wd a 1 : Nat), .int .u64 (wd a 2 : Nat), .int .u64 (wd a 3 : Nat)] from IsBlk.newAt _ _ rfl).after hb1
    have HB1 := Lib.hid ((show Below w.heap.size w _ from by repeat' (first | exact Below.refl _ _ | refine bel_drewN ?_ _ | refine Below.drew ?_ | refine Below.alloc ?_ ?_ _ | refine Below.setCell ?_ ?_ _ | exact Nat.le_refl _ | (simp; done) | (simp; omega) | assumption)).trans (hb1.mono (by simp <;> omega)))
    have x0 := hA.cell 0
    have x1 := hA.cell 1
    have x2 := hA.cell 2
    have x3 := hA.cell 3
    simp at x0 x1 x2 x3
    have frx := hA.free
    have lx := hA.lt
    clear hA hb1
    go_wp2_with fail
    refine (KS.out _).mono ?_
    rintro e w2 ⟨rfl, hb2⟩
    have HB2 := Lib.hid (bel_on HB1.out hb2)
    clear hb2 x0 x1 x2 x3 frx lx
    have ix : ∀ w, (Instr.index 25 (.agg #[.int .u64 (wd S 0 : Nat), .int .u64 (wd S 1 : Nat), .int .u64 (wd S 2 : Nat), .int .u64 (wd S 3 : Nat)]) (.int .i64 0)).run Try.prog w = .ok (.int .u64 (wd S 0 : Nat)) w := fun _ => by kernel_rfl
    go_wp2_with fail
    go_ret
    refine ⟨?_, HB2.out⟩
    congr 2
theorem compact_any (a : Nat) (w : World) (ha : a < w256) : Calls Try.prog 12 #[.agg #[.int .u64 (wd a 0 : Nat), .int .u64 (wd a 1 : Nat), .int .u64 (wd a 2 : Nat), .int .u64 (wd a 3 : Nat)]] w (BRet (.int .u32 (cN a : Nat)) w) := by
  have hb := bits_le ha
  have KB : ∀ w, Calls Try.prog 20 #[.agg #[.int .u64 (wd a 0 : Nat), .int .u64 (wd a 1 : Nat), .int .u64 (wd a 2 : Nat), .int .u64 (wd a 3 : Nat)]] w (BRet (.int .i64 (bitsN a : Nat)) w) := fun w => bits_any a w ha
  have KS : ∀ w, Calls Try.prog 30 #[.agg #[.int .u64 (wd a 0 : Nat), .int .u64 (wd a 1 : Nat), .int .u64 (wd a 2 : Nat), .int .u64 (wd a 3 : Nat)], .int .i64 (-8 * ((((bitsN a + 7) / 8 : Nat) : Int) - 3))] w (BRet (.agg #[.int .u64 (wd (shiftN a (-8 * ((((bitsN a + 7) / 8 : Nat) : Int) - 3))) 0 : Nat), .int .u64 (wd (shiftN a (-8 * ((((bitsN a + 7) / 8 : Nat) : Int) - 3))) 1 : Nat), .int .u64 (wd (shiftN a (-8 * ((((bitsN a + 7) / 8 : Nat) : Int) - 3))) 2 : Nat), .int .u64 (wd (shiftN a (-8 * ((((bitsN a + 7) / 8 : Nat) : Int) - 3))) 3 : Nat)]) w) := fun w => sh_any ha _ w
  have hm0 : shiftN a (-8 * ((((bitsN a + 7) / 8 : Nat) : Int) - 3)) < 16777216 := by
    by_cases h0 : a = 0
    · subst h0; rw [shiftN_of_zero]; decide
    · exact (first_top ha h0).1
  have hw0 : wd (shiftN a (-8 * ((((bitsN a + 7) / 8 : Nat) : Int) - 3))) 0 = shiftN a (-8 * ((((bitsN a + 7) / 8 : Nat) : Int) - 3)) := by rw [wd0, two64]; omega
  have h := compact_case a (bitsN a) ((bitsN a + 7) / 8) _ (shiftN a (-8 * ((((bitsN a + 7) / 8 : Nat) : Int) - 3))) (decide (8388608 ≤ shiftN a (-8 * ((((bitsN a + 7) / 8 : Nat) : Int) - 3)))) w hb (by omega) hm0 (Lib.hid KB) (by omega) (Lib.hid KS)
    (by rw [hw0]; exact IntWalk.u32_in _ (by omega)) (and_sign hm0)
  have e : (if decide (8388608 ≤ shiftN a (-8 * ((((bitsN a + 7) / 8 : Nat) : Int) - 3))) = true then ((bitsN a + 7) / 8 + 1) * 16777216 + shiftN a (-8 * ((((bitsN a + 7) / 8 : Nat) : Int) - 3)) / 256 else (bitsN a + 7) / 8 * 16777216 + shiftN a (-8 * ((((bitsN a + 7) / 8 : Nat) : Int) - 3))) = cN a := by
    by_cases h0 : a = 0
    · subst h0
      rw [shiftN_of_zero, bitsN_zero]
      simp [cN, sizB, topB, shiftN_of_zero]
    · obtain ⟨_, h2, h3, h4⟩ := first_top ha h0
      by_cases h8 : bitsN a % 8 = 0
      · rw [if_pos (decide_eq_true (h2.2 h8)), (h3 h8).1, (h3 h8).2]; rfl
      · rw [if_neg (by simp only [decide_eq_true_eq]; exact mt h2.1 h8), (h4 h8).1]
        have := (h4 h8).2
        unfold cN
        rw [← this]
  rw [e] at h
  exact h
end Go.Proofs.Ythmaijmjhfngpaa
