/- The program's quotients of numbers of four words. -/
import Derived.Test.YthmaijmjhfngpaaWideV
import Derived.Test.YthmaijmjhfngpaaWideQ
import Derived.RegionTactic
import Derived.BigRegion
namespace Go.Proofs.Ythmaijmjhfngpaa
open Go.RowKit

theorem zeros_blk : (#[.int .u64 0, .int .u64 0, .int .u64 0, .int .u64 0] : Array Value) = #[.int .u64 (wd 0 0 : Nat), .int .u64 (wd 0 1 : Nat), .int .u64 (wd 0 2 : Nat), .int .u64 (wd 0 3 : Nat)] := by
  simp [wd]
/-- The lowest bit of a doubled number is laid into its lowest word. -/
theorem low_bit {r : Nat} (t : Bool) : bits .or .u64 ((wd (2 * r % w256) 0 : Nat) : Int) ((t.toNat : Nat) : Int) = ((wd (2 * r % w256 + t.toNat) 0 : Nat) : Int) ∧
    wd (2 * r % w256 + t.toNat) 1 = wd (2 * r % w256) 1 ∧ wd (2 * r % w256 + t.toNat) 2 = wd (2 * r % w256) 2 ∧ wd (2 * r % w256 + t.toNat) 3 = wd (2 * r % w256) 3 := by
  have hb : t.toNat ≤ 1 := by cases t <;> decide
  have e : 2 * r % w256 = 2 * (r % (w256 / 2)) := by rw [w256_eq]; omega
  rw [u64_or_nat _ _ (wd_lt _ _) (by omega), e]
  generalize r % (w256 / 2) = x
  refine ⟨?_, ?_, ?_, ?_⟩
  · congr 1
    rw [wd0, wd0, two64]
    have e2 : 2 * x % 18446744073709551616 = 2 * (x % 9223372036854775808) := by omega
    have e3 : (2 * x + t.toNat) % 18446744073709551616 = 2 * (x % 9223372036854775808) + t.toNat := by omega
    rw [e2, e3]
    have := Nat.two_pow_add_eq_or_of_lt (i := 1) (show t.toNat < 2 ^ 1 by omega) (x % 9223372036854775808)
    rw [show (2 : Nat) ^ 1 = 2 from rfl] at this
    exact this.symm
  · rw [wd1, wd1, two64]; omega
  · rw [wd2, wd2, two64, two128]; omega
  · rw [wd3, wd3, two64, two192]; omega
/-- Whether the highest bit falls off. -/
theorem high_bit {r : Nat} (hr : r < w256) : (((wd r 3 : Nat) : Int) / 9223372036854775808 != 0) = decide (2 ^ 255 ≤ r) := by
  have hs := wd_sum hr
  have h0 := wd_lt r 0
  have h1 := wd_lt r 1
  have h2 := wd_lt r 2
  rw [two64, two128, two192] at hs
  rw [show (2 : Nat) ^ 255 = 57896044618658097711785492504343953926634992332820282019728792003956564819968 from by decide]
  generalize wd r 0 = x0 at *; generalize wd r 1 = x1 at *; generalize wd r 2 = x2 at *; generalize wd r 3 = x3 at *
  apply Bool.eq_iff_iff.2
  simp
  omega

/-- What stands at a loop's head. -/
def QuotAt (g a b : Nat) (w0 : World) (k : Nat) (wr : World) : Prop :=
  IsBlk wr g 25 #[.int .u64 (wd a 0 : Nat), .int .u64 (wd a 1 : Nat), .int .u64 (wd a 2 : Nat), .int .u64 (wd a 3 : Nat)] ∧
  IsBlk wr (g + 1) 25 #[.int .u64 (wd b 0 : Nat), .int .u64 (wd b 1 : Nat), .int .u64 (wd b 2 : Nat), .int .u64 (wd b 3 : Nat)] ∧
  IsBlk wr (g + 1 + 1) 25 #[.int .u64 (wd (hiB (a / b) k) 0 : Nat), .int .u64 (wd (hiB (a / b) k) 1 : Nat), .int .u64 (wd (hiB (a / b) k) 2 : Nat), .int .u64 (wd (hiB (a / b) k) 3 : Nat)] ∧
  IsBlk wr (g + 1 + 1 + 1) 25 #[.int .u64 (wd (restN a b k) 0 : Nat), .int .u64 (wd (restN a b k) 1 : Nat), .int .u64 (wd (restN a b k) 2 : Nat), .int .u64 (wd (restN a b k) 3 : Nat)] ∧
  Below w0.heap.size w0 wr

theorem hiB_kept {w : World} {g Q j : Nat} (h : Q.testBit j = false) (hQ : IsBlk w g 25 #[.int .u64 (wd (hiB Q (j + 1)) 0 : Nat), .int .u64 (wd (hiB Q (j + 1)) 1 : Nat), .int .u64 (wd (hiB Q (j + 1)) 2 : Nat), .int .u64 (wd (hiB Q (j + 1)) 3 : Nat)]) :
    IsBlk w g 25 #[.int .u64 (wd (hiB Q j) 0 : Nat), .int .u64 (wd (hiB Q j) 1 : Nat), .int .u64 (wd (hiB Q j) 2 : Nat), .int .u64 (wd (hiB Q j) 3 : Nat)] := by
  rw [hiB_same Q (.inl h), hiB_same Q (.inl h), hiB_same Q (.inl h), hiB_same Q (.inl h)]
  exact hQ
theorem hiB_put {w : World} {g Q j q t : Nat} (hQ : IsBlk w g 25 #[.int .u64 (wd (hiB Q (j + 1)) 0 : Nat), .int .u64 (wd (hiB Q (j + 1)) 1 : Nat), .int .u64 (wd (hiB Q (j + 1)) 2 : Nat), .int .u64 (wd (hiB Q (j + 1)) 3 : Nat)]) (hj : j = 64 * q + t) (hq : q < 4) (ht : t < 64) (_h : Q.testBit j = true) :
    IsBlk (w.setCell ⟨g, q, none⟩ (.int .u64 (wd (hiB Q j) q : Nat))) g 25 #[.int .u64 (wd (hiB Q j) 0 : Nat), .int .u64 (wd (hiB Q j) 1 : Nat), .int .u64 (wd (hiB Q j) 2 : Nat), .int .u64 (wd (hiB Q j) 3 : Nat)] := by
  have hp := hQ.put q (.int .u64 (wd (hiB Q j) q : Nat))
  have hs := fun i (hi : ¬ i = q) => hiB_same Q (k := j) (j := i) (.inr (by omega))
  have h4 : q = 0 ∨ q = 1 ∨ q = 2 ∨ q = 3 := by omega
  rcases h4 with rfl | rfl | rfl | rfl
  · rw [← hs 1 (by omega), ← hs 2 (by omega), ← hs 3 (by omega)] at hp; exact hp
  · rw [← hs 0 (by omega), ← hs 2 (by omega), ← hs 3 (by omega)] at hp; exact hp
  · rw [← hs 0 (by omega), ← hs 1 (by omega), ← hs 3 (by omega)] at hp; exact hp
  · rw [← hs 0 (by omega), ← hs 1 (by omega), ← hs 2 (by omega)] at hp; exact hp
/-- What stands inside a round: the quotient's bits, the rest. -/
def QuotIn (g a b x r : Nat) (w0 wr : World) : Prop :=
  IsBlk wr g 25 #[.int .u64 (wd a 0 : Nat), .int .u64 (wd a 1 : Nat), .int .u64 (wd a 2 : Nat), .int .u64 (wd a 3 : Nat)] ∧
  IsBlk wr (g + 1) 25 #[.int .u64 (wd b 0 : Nat), .int .u64 (wd b 1 : Nat), .int .u64 (wd b 2 : Nat), .int .u64 (wd b 3 : Nat)] ∧
  IsBlk wr (g + 1 + 1) 25 #[.int .u64 (wd x 0 : Nat), .int .u64 (wd x 1 : Nat), .int .u64 (wd x 2 : Nat), .int .u64 (wd x 3 : Nat)] ∧
  IsBlk wr (g + 1 + 1 + 1) 25 #[.int .u64 (wd r 0 : Nat), .int .u64 (wd r 1 : Nat), .int .u64 (wd r 2 : Nat), .int .u64 (wd r 3 : Nat)] ∧
  Below w0.heap.size w0 wr

set_option maxRecDepth 100000 in
set_option maxHeartbeats 8000000 in
theorem quot_any (a b : Nat) (w : World) (ha : a < w256) (hb : b < w256) (hb0 : b ≠ 0) :
    Calls Try.prog 24 #[.agg #[.int .u64 (wd a 0 : Nat), .int .u64 (wd a 1 : Nat), .int .u64 (wd a 2 : Nat), .int .u64 (wd a 3 : Nat)], .agg #[.int .u64 (wd b 0 : Nat), .int .u64 (wd b 1 : Nat), .int .u64 (wd b 2 : Nat), .int .u64 (wd b 3 : Nat)]] w (BRet (.tuple #[.agg #[.int .u64 (wd (a / b) 0 : Nat), .int .u64 (wd (a / b) 1 : Nat), .int .u64 (wd (a / b) 2 : Nat), .int .u64 (wd (a / b) 3 : Nat)], .agg #[.int .u64 (wd (a % b) 0 : Nat), .int .u64 (wd (a % b) 1 : Nat), .int .u64 (wd (a % b) 2 : Nat), .int .u64 (wd (a % b) 3 : Nat)], .int .i64 0]) w) := by
  have E0 : ∀ w, (binOp .eql 25 (.agg #[.int .u64 (wd b 0 : Nat), .int .u64 (wd b 1 : Nat), .int .u64 (wd b 2 : Nat), .int .u64 (wd b 3 : Nat)]) (.agg #[.int .u64 0, .int .u64 0, .int .u64 0, .int .u64 0])).run Try.prog w = .ok (.bool false) w := fun w => by
    have := eqW_zero hb w
    rwa [decide_eq_false hb0] at this
  have KB := Lib.hid (fun w => bits_any a w ha)
  have hbl : bitsN a ≤ 256 := bitsN_le ha
  have hst : restN a b (bitsN a) = 0 := restN_none (bitsN_lt a)
  have hqs : hiB (a / b) (bitsN a) = 0 := hiB_none (Nat.lt_of_le_of_lt (Nat.div_le_self _ _) (bitsN_lt a))
  have HBL := Lib.hid hbl
  have HST := Lib.hid hst
  have HQS := Lib.hid hqs
  have HB0 := Lib.hid (Nat.pos_of_ne_zero hb0)
  clear hst hqs hb0
  go_enter Try.func24, Try.ntmps24
  go_wp2_with fail
  refine (KB.out _).mono ?_
  rintro e w1 ⟨rfl, hb1⟩
  have hA1 := (show IsBlk _ w.heap.size 25 #[.int .u64 (wd a 0 : Nat), .int .u64 (wd a 1 : Nat), .int .u64 (wd a 2 : Nat), .int .u64 (wd a 3 : Nat)] from by repeat' (first | with_reducible assumption | with_reducible refine IsBlk.drewN ?_ _ | with_reducible refine IsBlk.drew ?_ | with_reducible refine IsBlk.newAt _ _ ?_ | with_reducible refine IsBlk.alloc ?_ _ | with_reducible refine IsBlk.far ?_ ?_ _ | (simp; done) | (simp; omega))).after hb1
  have hBB1 := (show IsBlk _ (w.heap.size + 1) 25 #[.int .u64 (wd b 0 : Nat), .int .u64 (wd b 1 : Nat), .int .u64 (wd b 2 : Nat), .int .u64 (wd b 3 : Nat)] from by repeat' (first | with_reducible assumption | with_reducible refine IsBlk.drewN ?_ _ | with_reducible refine IsBlk.drew ?_ | with_reducible refine IsBlk.newAt _ _ ?_ | with_reducible refine IsBlk.alloc ?_ _ | with_reducible refine IsBlk.far ?_ ?_ _ | (simp; done) | (simp; omega))).after hb1
  have hQ1 := (show IsBlk _ (w.heap.size + 1 + 1) 25 #[.int .u64 0, .int .u64 0, .int .u64 0, .int .u64 0] from (IsBlk.newAt _ _ (by simp)).alloc _).after hb1
  have hR1 := (show IsBlk _ (w.heap.size + 1 + 1 + 1) 25 #[.int .u64 0, .int .u64 0, .int .u64 0, .int .u64 0] from by repeat' (first | with_reducible assumption | with_reducible refine IsBlk.drewN ?_ _ | with_reducible refine IsBlk.drew ?_ | with_reducible refine IsBlk.newAt _ _ ?_ | with_reducible refine IsBlk.alloc ?_ _ | with_reducible refine IsBlk.far ?_ ?_ _ | (simp; done) | (simp; omega))).after hb1
  have B1 := (show Below w.heap.size w _ from by repeat' (first | exact Below.refl _ _ | refine bel_drewN ?_ _ | refine Below.drew ?_ | refine Below.alloc ?_ ?_ _ | refine Below.setCell ?_ ?_ _ | exact Nat.le_refl _ | (simp; done) | (simp; omega) | assumption)).trans (hb1.mono (by simp <;> omega))
  clear hb1
  have hS1 : QuotAt w.heap.size a b w (bitsN a) w1 := by
    rw [zeros_blk] at hQ1 hR1
    unfold QuotAt
    rw [HST.out, HQS.out]
    exact ⟨hA1, hBB1, hQ1, hR1, B1⟩
  have HS1 := Lib.hid hS1
  clear hA1 hBB1 hQ1 hR1 B1 hS1 HST HQS
  generalize bitsN a = B at *
  go_wp2_with fail
  go_loopw [7] (fun i wr => ∃ (k : Nat) (z : Int), k ≤ 256 ∧ z = (k : Int) - 1 ∧ i = .int .i64 z ∧ QuotAt w.heap.size a b w k wr) (fun i _ => (intOf i + 1).toNat)
  case atStart => exact ⟨B, _, HBL.out, rfl, rfl, HS1.out⟩
  case round =>
    clear HS1
    obtain ⟨k, z, hk, hz, rfl, hS⟩ := hrel
    by_cases hlt : 1 ≤ k
    · obtain ⟨j, rfl⟩ : ∃ j, k = j + 1 := ⟨k - 1, by omega⟩
      obtain rfl : z = (j : Int) := by omega
      obtain ⟨p1, p2, p3, p4⟩ := quot_step (a := a) HB0.out hb j
      have hrl := restN_lt (a := a) HB0.out (j + 1)
      have hhi := high_bit (r := restN a b (j + 1)) (by omega)
      obtain ⟨l0, l1, l2, l3⟩ := low_bit (r := restN a b (j + 1)) (a.testBit j)
      have hT : shiftN (restN a b (j + 1)) 1 = 2 * restN a b (j + 1) % w256 := by
        have := shiftN_up (restN a b (j + 1)) 1
        rw [Nat.mul_comm, Nat.pow_one] at this
        exact this
      have KS := Lib.hid (fun w => sh_any (a := restN a b (j + 1)) (by omega) 1 w)
      rw [hT] at KS
      have KC := Lib.hid (fun w => cmp_any (2 * restN a b (j + 1) % w256 + (a.testBit j).toNat) b w p1 hb)
      have KM := Lib.hid (fun w => sub_any (2 * restN a b (j + 1) % w256 + (a.testBit j).toNat) b w p1 hb)
      obtain ⟨q, t, hq, ht, hj⟩ : ∃ q t, q < 4 ∧ t < 64 ∧ j = 64 * q + t := ⟨j / 64, j % 64, by omega, by omega, by omega⟩
      have hbit := bit_of_word (a := a) (q := q) ht
      rw [← hj] at hbit
      have i1 : (j : Int) / 64 = (q : Nat) := by omega
      have i2 : (j : Int) % 64 = (t : Nat) := by omega
      have i3 : (j : Int).tdiv 64 = (q : Nat) := by rw [Int.tdiv_eq_ediv_of_nonneg (by omega)]; exact i1
      have i4 : (j : Int).tmod 64 = (t : Nat) := by rw [Int.tmod_eq_emod_of_nonneg (by omega)]; exact i2
      obtain ⟨hA, hBB, hQ, hR, hB⟩ := hS
      have HA := Lib.hid hA
      have HBB := Lib.hid hBB
      have HQ := Lib.hid hQ
      have HB := Lib.hid hB
      have HR := Lib.hid hR
      have P2 := Lib.hid p2
      have P3 := Lib.hid p3
      have P4 := Lib.hid p4
      have L0 := Lib.hid l0
      have L1 := Lib.hid l1
      have L2 := Lib.hid l2
      have L3 := Lib.hid l3
      have HH := Lib.hid hhi
      have HIT := Lib.hid hbit
      have HJ := Lib.hid hj
      have r0 := hR.cell 0
      have r1 := hR.cell 1
      have r2 := hR.cell 2
      have r3 := hR.cell 3
      simp at r0 r1 r2 r3
      have frr := hR.free
      have lr := hR.lt
      clear hz hlt hA hBB hQ hB hR p1 p2 p3 p4 l0 l1 l2 l3 hhi hbit hT hrl hj i1 i2 i3 i4
      generalize restN a b (j + 1) = ρ at *
      generalize (a.testBit j).toNat = bt at *
      generalize 2 * ρ % w256 = T at *
      have hj0 : (0 : Int) ≤ (j : Int) := by omega
      have p2 := P2.out
      generalize cmpN (T + bt) b = M at *
      have three : ((((wd ρ 3 : Nat) : Int) / 9223372036854775808 != 0) = true ∧ (a / b).testBit j = true) ∨
          ((((wd ρ 3 : Nat) : Int) / 9223372036854775808 != 0) = false ∧ 0 ≤ M ∧ (a / b).testBit j = true) ∨
          ((((wd ρ 3 : Nat) : Int) / 9223372036854775808 != 0) = false ∧ ¬ 0 ≤ M ∧ (a / b).testBit j = false) := by
        rw [HH.out, p2]
        cases decide (2 ^ 255 ≤ ρ)
        · by_cases hM : 0 ≤ M
          · simp [hM]
          · simp [hM]
        · simp
      clear p2 P2 HH
      have G1 : IntKind.i64.wrap ((j : Int) - 1) = (j : Int) - 1 := IntWalk.i64_in _ (by omega)
      have WR := Lib.hid (show (t : Int) < 64 from by omega)
      rcases three with ⟨tv, tb⟩ | ⟨tv, tm, tb⟩ | ⟨tv, tm, tb⟩
      all_goals
        have TB := Lib.hid tb
        clear tb
        go_wp2_with fail
        refine (KS.out _).mono ?_
        rintro e w2 ⟨rfl, hb2⟩
        have hA2 := HA.out.after hb2
        have hBB2 := HBB.out.after hb2
        have hQ2 := HQ.out.after hb2
        have hR2 := HR.out.after hb2
        have hB2 := bel_on HB.out hb2
        clear r0 r1 r2 r3 frr lr hb2
        have r0 := hR2.cell 0
        have r1 := hR2.cell 1
        have r2 := hR2.cell 2
        have r3 := hR2.cell 3
        simp at r0 r1 r2 r3
        have frr := hR2.free
        have lr := hR2.lt
        go_wp2_with fail
        refine wp_gen (fun w' => QuotIn w.heap.size a b (hiB (a / b) (j + 1)) T w w') ⟨far4 hA2 (by omega), far4 hBB2 (by omega), far4 hQ2 (by omega), stored4 hR2, bel4 hB2 (by omega)⟩ ?_
        rintro w3 ⟨hA3, hBB3, hQ3, hR3, hB3⟩
        clear hA2 hBB2 hQ2 hR2 hB2 r0 r1 r2 r3 frr lr
        have r0 := hR3.cell 0
        simp at r0
        have frr := hR3.free 0
        have lr := hR3.lt
        have la := hA3.lt
        have ca := word_cell hA3 hq
        have i1 : (j : Int) / 64 = (q : Nat) := by have := HJ.out; omega
        have i2 : (j : Int) % 64 = (t : Nat) := by have := HJ.out; omega
        have i3 : (j : Int).tdiv 64 = (q : Nat) := by rw [Int.tdiv_eq_ediv_of_nonneg (by omega)]; exact i1
        have i4 : (j : Int).tmod 64 = (t : Nat) := by rw [Int.tmod_eq_emod_of_nonneg (by omega)]; exact i2
        have v1 := HIT.out
        have v2 := L0.out
        go_region
        have s0 := hBB3.cell 0
        have s1 := hBB3.cell 1
        have s2 := hBB3.cell 2
        have s3 := hBB3.cell 3
        simp at s0 s1 s2 s3
        have frs := hBB3.free
        have r1 := hR3.cell 1
        have r2 := hR3.cell 2
        have r3 := hR3.cell 3
        simp at r1 r2 r3
        have lbb := hBB3.lt
        rw [← L1.out] at r1
        rw [← L2.out] at r2
        rw [← L3.out] at r3
        clear i1 i2 i3 i4 v1 v2 ca
        have hA4 := (hA3.far (p := ⟨w.heap.size + 1 + 1 + 1, 0, none⟩) (by simp; omega) (.int .u64 (wd (T + bt) 0 : Nat))).drew
        have hBB4 := (hBB3.far (p := ⟨w.heap.size + 1 + 1 + 1, 0, none⟩) (by simp) (.int .u64 (wd (T + bt) 0 : Nat))).drew
        have hQ4 := (hQ3.far (p := ⟨w.heap.size + 1 + 1 + 1, 0, none⟩) (by simp) (.int .u64 (wd (T + bt) 0 : Nat))).drew
        have hR4 := (hR3.put 0 (.int .u64 (wd (T + bt) 0 : Nat))).drew
        have hB4 := (hB3.setCell (p := ⟨w.heap.size + 1 + 1 + 1, 0, none⟩) (by simp; omega) (.int .u64 (wd (T + bt) 0 : Nat))).drew
        have HAA := Lib.hid hA4
        have HBBB := Lib.hid hBB4
        have HQQ := Lib.hid hQ4
        have HRR := Lib.hid (show IsBlk _ _ _ #[.int .u64 (wd (T + bt) 0 : Nat), .int .u64 (wd (T + bt) 1 : Nat), .int .u64 (wd (T + bt) 2 : Nat), .int .u64 (wd (T + bt) 3 : Nat)] from by
          rw [L1.out, L2.out, L3.out]; exact hR4)
        have HBX := Lib.hid hB4
        clear hA3 hBB3 hQ3 hR3 hB3 hA4 hBB4 hQ4 hR4 hB4
        go_wp2_with fail
      · skip
        refine (KM.out _).mono ?_
        rintro e w5 ⟨rfl, hb5⟩
        have hA5 := HAA.out.after hb5
        have hBB5 := HBBB.out.after hb5
        have hQ5 := HQQ.out.after hb5
        have hR5 := HRR.out.after hb5
        have hB5 := bel_on HBX.out hb5
        clear r0 r1 r2 r3 frr lr lbb la s0 s1 s2 s3 frs hb5
        have r0 := hR5.cell 0
        have r1 := hR5.cell 1
        have r2 := hR5.cell 2
        have r3 := hR5.cell 3
        simp at r0 r1 r2 r3
        have frr := hR5.free
        have lr := hR5.lt
        go_wp2_with fail
        refine wp_gen (fun w' => QuotIn w.heap.size a b (hiB (a / b) (j + 1)) (subN (T + bt) b) w w') ⟨far4 hA5 (by omega), far4 hBB5 (by omega), far4 hQ5 (by omega), stored4 hR5, bel4 hB5 (by omega)⟩ ?_
        rintro w6 ⟨hA6, hBB6, hQ6, hR6, hB6⟩
        clear hA5 hBB5 hQ5 hR5 hB5 r0 r1 r2 r3 frr lr
        have lq := hQ6.lt
        have cq := word_cell hQ6 hq
        have frq := hQ6.free q
        have i1 : (j : Int) / 64 = (q : Nat) := by have := HJ.out; omega
        have i2 : (j : Int) % 64 = (t : Nat) := by have := HJ.out; omega
        have i3 : (j : Int).tdiv 64 = (q : Nat) := by rw [Int.tdiv_eq_ediv_of_nonneg (by omega)]; exact i1
        have i4 : (j : Int).tmod 64 = (t : Nat) := by rw [Int.tmod_eq_emod_of_nonneg (by omega)]; exact i2
        have v1 := hiB_set (Q := a / b) (q := q) ht (by rw [← HJ.out]; exact TB.out)
        rw [← HJ.out] at v1
        go_region
        clear i1 i2 i3 i4 v1 cq frq lq
        go_wp2_with fail
        refine ⟨⟨j, _, by omega, rfl, rfl, ?_⟩, by simp [intOf]⟩
        refine ⟨(hA6.far (by simp; omega) _).drew, (hBB6.far (by simp) _).drew, (hiB_put hQ6 HJ.out hq ht TB.out).drew, ?_, (hB6.setCell (by simp; omega) _).drew⟩
        rw [← P3.out TB.out]
        exact (hR6.far (by simp) _).drew
      · skip
        refine (KC.out _).mono ?_
        rintro e w4 ⟨rfl, hb4⟩
        have hA4 := HAA.out.after hb4
        have hBB4 := HBBB.out.after hb4
        have hQ4 := HQQ.out.after hb4
        have hR4 := HRR.out.after hb4
        have hB4 := bel_on HBX.out hb4
        clear r0 r1 r2 r3 frr lr lbb la s0 s1 s2 s3 frs hb4
        have r0 := hR4.cell 0
        have r1 := hR4.cell 1
        have r2 := hR4.cell 2
        have r3 := hR4.cell 3
        simp at r0 r1 r2 r3
        have frr := hR4.free
        have s0 := hBB4.cell 0
        have s1 := hBB4.cell 1
        have s2 := hBB4.cell 2
        have s3 := hBB4.cell 3
        simp at s0 s1 s2 s3
        have frs := hBB4.free
        have lr := hR4.lt
        have lbb := hBB4.lt
        have la := hA4.lt
        go_wp2_with fail
        refine (KM.out _).mono ?_
        rintro e w5 ⟨rfl, hb5⟩
        have hA5 := hA4.after hb5
        have hBB5 := hBB4.after hb5
        have hQ5 := hQ4.after hb5
        have hR5 := hR4.after hb5
        have hB5 := bel_on hB4 hb5
        clear r0 r1 r2 r3 frr lr lbb la s0 s1 s2 s3 frs hb5
        have r0 := hR5.cell 0
        have r1 := hR5.cell 1
        have r2 := hR5.cell 2
        have r3 := hR5.cell 3
        simp at r0 r1 r2 r3
        have frr := hR5.free
        have lr := hR5.lt
        go_wp2_with fail
        refine wp_gen (fun w' => QuotIn w.heap.size a b (hiB (a / b) (j + 1)) (subN (T + bt) b) w w') ⟨far4 hA5 (by omega), far4 hBB5 (by omega), far4 hQ5 (by omega), stored4 hR5, bel4 hB5 (by omega)⟩ ?_
        rintro w6 ⟨hA6, hBB6, hQ6, hR6, hB6⟩
        clear hA5 hBB5 hQ5 hR5 hB5 r0 r1 r2 r3 frr lr
        have lq := hQ6.lt
        have cq := word_cell hQ6 hq
        have frq := hQ6.free q
        have i1 : (j : Int) / 64 = (q : Nat) := by have := HJ.out; omega
        have i2 : (j : Int) % 64 = (t : Nat) := by have := HJ.out; omega
        have i3 : (j : Int).tdiv 64 = (q : Nat) := by rw [Int.tdiv_eq_ediv_of_nonneg (by omega)]; exact i1
        have i4 : (j : Int).tmod 64 = (t : Nat) := by rw [Int.tmod_eq_emod_of_nonneg (by omega)]; exact i2
        have v1 := hiB_set (Q := a / b) (q := q) ht (by rw [← HJ.out]; exact TB.out)
        rw [← HJ.out] at v1
        go_region
        clear i1 i2 i3 i4 v1 cq frq lq
        go_wp2_with fail
        refine ⟨⟨j, _, by omega, rfl, rfl, ?_⟩, by simp [intOf]⟩
        refine ⟨(hA6.far (by simp; omega) _).drew, (hBB6.far (by simp) _).drew, (hiB_put hQ6 HJ.out hq ht TB.out).drew, ?_, (hB6.setCell (by simp; omega) _).drew⟩
        rw [← P3.out TB.out]
        exact (hR6.far (by simp) _).drew
      · skip
        refine (KC.out _).mono ?_
        rintro e w4 ⟨rfl, hb4⟩
        have hA4 := HAA.out.after hb4
        have hBB4 := HBBB.out.after hb4
        have hQ4 := HQQ.out.after hb4
        have hR4 := HRR.out.after hb4
        have hB4 := bel_on HBX.out hb4
        clear r0 r1 r2 r3 frr lr lbb la s0 s1 s2 s3 frs hb4
        have r0 := hR4.cell 0
        have r1 := hR4.cell 1
        have r2 := hR4.cell 2
        have r3 := hR4.cell 3
        simp at r0 r1 r2 r3
        have frr := hR4.free
        have s0 := hBB4.cell 0
        have s1 := hBB4.cell 1
        have s2 := hBB4.cell 2
        have s3 := hBB4.cell 3
        simp at s0 s1 s2 s3
        have frs := hBB4.free
        have lr := hR4.lt
        have lbb := hBB4.lt
        have la := hA4.lt
        go_wp2_with fail
        refine ⟨⟨j, _, by omega, rfl, rfl, ?_⟩, by simp [intOf]⟩
        refine ⟨hA4, hBB4, hiB_kept TB.out hQ4, ?_, hB4⟩
        rw [← P4.out TB.out]
        exact hR4
    · obtain rfl : k = 0 := by omega
      obtain ⟨hA, hBB, hQ, hR, hB⟩ := hS
      rw [hiB_zero] at hQ
      rw [restN_zero] at hR
      have hz0 : ¬ (0 : Int) ≤ z := by omega
      have q0 := hQ.cell 0
      have q1 := hQ.cell 1
      have q2 := hQ.cell 2
      have q3 := hQ.cell 3
      simp at q0 q1 q2 q3
      have frq := hQ.free
      have r0 := hR.cell 0
      have r1 := hR.cell 1
      have r2 := hR.cell 2
      have r3 := hR.cell 3
      simp at r0 r1 r2 r3
      have frr := hR.free
      have lq := hQ.lt
      have lr := hR.lt
      have HQ := Lib.hid hQ
      have HR := Lib.hid hR
      have HB := Lib.hid hB
      clear hA hBB hQ hR hB hz hlt hk
      generalize a / b = qq at *
      generalize a % b = rr at *
      go_wp2_with fail
      go_region
      go_wp2_with fail
      all_goals
        have fq := (far4 (g' := w.heap.size + 1 + 1 + 1) (v0 := .int .u64 (wd rr 0 : Nat)) (v1 := .int .u64 (wd rr 1 : Nat)) (v2 := .int .u64 (wd rr 2 : Nat)) (v3 := .int .u64 (wd rr 3 : Nat)) (stored4 (v0 := .int .u64 (wd qq 0 : Nat)) (v1 := .int .u64 (wd qq 1 : Nat)) (v2 := .int .u64 (wd qq 2 : Nat)) (v3 := .int .u64 (wd qq 3 : Nat)) HQ.out) (by omega)).drew
        have fr := (stored4 (v0 := .int .u64 (wd rr 0 : Nat)) (v1 := .int .u64 (wd rr 1 : Nat)) (v2 := .int .u64 (wd rr 2 : Nat)) (v3 := .int .u64 (wd rr 3 : Nat)) (far4 (g' := w.heap.size + 1 + 1) (v0 := .int .u64 (wd qq 0 : Nat)) (v1 := .int .u64 (wd qq 1 : Nat)) (v2 := .int .u64 (wd qq 2 : Nat)) (v3 := .int .u64 (wd qq 3 : Nat)) HR.out (by omega))).drew
        have a0 := fq.cell 0
        have a1 := fq.cell 1
        have a2 := fq.cell 2
        have a3 := fq.cell 3
        have b0 := fr.cell 0
        have b1 := fr.cell 1
        have b2 := fr.cell 2
        have b3 := fr.cell 3
        simp at a0 a1 a2 a3 b0 b1 b2 b3
        exact bodyPost_ret (v := .tuple #[.agg #[.int .u64 (wd qq 0 : Nat), .int .u64 (wd qq 1 : Nat), .int .u64 (wd qq 2 : Nat), .int .u64 (wd qq 3 : Nat)], .agg #[.int .u64 (wd rr 0 : Nat), .int .u64 (wd rr 1 : Nat), .int .u64 (wd rr 2 : Nat), .int .u64 (wd rr 3 : Nat)], .int .i64 0]) (by simp [results, Try.results24, go_sem, a0, a1, a2, a3, b0, b1, b2, b3]) rfl ⟨rfl, (bel4 (bel4 HB.out (by omega)) (by omega)).drew⟩

set_option maxRecDepth 100000 in
set_option maxHeartbeats 2000000 in
theorem quot_zero (a : Nat) (w : World) : Calls Try.prog 24 #[.agg #[.int .u64 (wd a 0 : Nat), .int .u64 (wd a 1 : Nat), .int .u64 (wd a 2 : Nat), .int .u64 (wd a 3 : Nat)], .agg #[.int .u64 0, .int .u64 0, .int .u64 0, .int .u64 0]] w (BRet (.tuple #[.agg #[.int .u64 0, .int .u64 0, .int .u64 0, .int .u64 0], .agg #[.int .u64 0, .int .u64 0, .int .u64 0, .int .u64 0], .int .i64 2]) w) := by
  have E0 : ∀ w, (binOp .eql 25 (.agg #[.int .u64 0, .int .u64 0, .int .u64 0, .int .u64 0]) (.agg #[.int .u64 0, .int .u64 0, .int .u64 0, .int .u64 0])).run Try.prog w = .ok (.bool true) w := fun w => eqW_same 0 0 0 0 w
  go_enter Try.func24, Try.ntmps24
  go_wp2_with fail
  go_region
  go_wp2_with fail
  all_goals
    exact bodyPost_ret (v := .tuple #[.agg #[.int .u64 0, .int .u64 0, .int .u64 0, .int .u64 0], .agg #[.int .u64 0, .int .u64 0, .int .u64 0, .int .u64 0], .int .i64 2]) (by simp [results, Try.results24, go_sem]) rfl ⟨rfl, by repeat' (first | exact Below.refl _ _ | refine bel_drewN ?_ _ | refine Below.drew ?_ | refine Below.alloc ?_ ?_ _ | refine Below.setCell ?_ ?_ _ | exact Nat.le_refl _ | (simp; done) | (simp; omega) | assumption)⟩
end Go.Proofs.Ythmaijmjhfngpaa
