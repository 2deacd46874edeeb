/- The program's quotients by a word. -/
import Derived.Test.YthmaijmjhfngpaaWideX
namespace Go.Proofs.Ythmaijmjhfngpaa
open Go.RowKit

/-! ### By a word -/
/-- What is left of the words from k on. -/
def restW (a n k : Nat) : Nat := a / 2 ^ (64 * k) % n
theorem restW_lt {a n : Nat} (hn : 0 < n) (k : Nat) : restW a n k < n := Nat.mod_lt _ hn
theorem restW_four {a n : Nat} (ha : a < w256) : restW a n 4 = 0 := by unfold restW; rw [show 2 ^ (64 * 4) = w256 from rfl, Nat.div_eq_of_lt ha, Nat.zero_mod]
theorem restW_zero (a n : Nat) : restW a n 0 = a % n := by simp [restW]
theorem div_word {a n : Nat} (hn : 0 < n) (k : Nat) : (restW a n (k + 1) * 18446744073709551616 + wd a k) / n = wd (a / n) k ∧ (restW a n (k + 1) * 18446744073709551616 + wd a k) % n = restW a n k := by
  have hd : a / 2 ^ (64 * k) = a / 2 ^ (64 * (k + 1)) * 18446744073709551616 + wd a k := by
    unfold wd
    rw [show 64 * (k + 1) = 64 * k + 64 from by omega, Nat.pow_add, ← Nat.div_div_eq_div_mul, two64]
    have := Nat.div_add_mod (a / 2 ^ (64 * k)) 18446744073709551616
    omega
  have hq : a / n / 2 ^ (64 * k) = a / 2 ^ (64 * k) / n := by rw [Nat.div_div_eq_div_mul, Nat.mul_comm, ← Nat.div_div_eq_div_mul]
  have hr := restW_lt (a := a) hn (k + 1)
  have hw := wd_lt a k
  have h1 := Nat.div_add_mod (a / 2 ^ (64 * (k + 1))) n
  show (a / 2 ^ (64 * (k + 1)) % n * 18446744073709551616 + wd a k) / n = a / n / 2 ^ (64 * k) % 2 ^ 64 ∧ _ = a / 2 ^ (64 * k) % n
  unfold restW at hr ⊢
  rw [hq, hd]
  obtain ⟨M, hM⟩ : ∃ M, a / 2 ^ (64 * (k + 1)) = M := ⟨_, rfl⟩
  rewrite [hM] at h1 hr ⊢
  obtain ⟨Q, hQ⟩ : ∃ Q, M / n = Q := ⟨_, rfl⟩
  obtain ⟨r, hR⟩ : ∃ r, M % n = r := ⟨_, rfl⟩
  rewrite [hQ, hR] at h1
  rewrite [hR] at hr ⊢
  have e : M * 18446744073709551616 + wd a k = r * 18446744073709551616 + wd a k + n * (Q * 18446744073709551616) := by
    rewrite [← h1, Nat.add_mul, Nat.mul_assoc]
    exact letters_sum _ _ _
  rewrite [e, Nat.add_mul_div_left _ _ hn, Nat.add_mul_mod_self_left]
  refine ⟨?_, rfl⟩
  have hl : (r * 18446744073709551616 + wd a k) / n < 18446744073709551616 := by
    apply Nat.div_lt_of_lt_mul
    have h2 : (r + 1) * 18446744073709551616 ≤ n * 18446744073709551616 := Nat.mul_le_mul_right _ hr
    rewrite [Nat.add_mul] at h2
    omega
  rewrite [two64, Nat.add_mul_mod_self_right, Nat.mod_eq_of_lt hl]
  rfl

set_option maxRecDepth 100000 in
set_option maxHeartbeats 4000000 in
theorem div_any (a n : Nat) (w : World) (ha : a < w256) (hn : n < 18446744073709551616) (hn0 : 0 < n) :
    Calls Try.prog 29 #[.agg #[.int .u64 (wd a 0 : Nat), .int .u64 (wd a 1 : Nat), .int .u64 (wd a 2 : Nat), .int .u64 (wd a 3 : Nat)], .int .u64 n] w (BRet (.tuple #[.agg #[.int .u64 (wd (a / n) 0 : Nat), .int .u64 (wd (a / n) 1 : Nat), .int .u64 (wd (a / n) 2 : Nat), .int .u64 (wd (a / n) 3 : Nat)], .int .u64 (a % n : Nat), .int .i64 0]) w) := by
  have D := Lib.hid (show ∀ k w, Calls Try.prog 49 #[.int .u64 (restW a n (k + 1) : Nat), .int .u64 (wd a k : Nat), .int .u64 n] w (BRet (.tuple #[.int .u64 (wd (a / n) k : Nat), .int .u64 (restW a n k : Nat)]) w) from fun k w => by
    have := div64_any (restW a n (k + 1)) (wd a k) n w (restW_lt hn0 _) hn (wd_lt a k)
    rw [(div_word hn0 k).1, (div_word hn0 k).2] at this
    exact this.mono fun _ _ ⟨h1, m, h2⟩ => ⟨h1, by subst h2; exact below_drewN m⟩)
  have D3 := D.out 3
  have D2 := D.out 2
  have D1 := D.out 1
  have D0 := D.out 0
  simp only [restW_four ha, restW_zero] at D3 D2 D1 D0
  have t0 : ((n : Int) == 0) = false := by simp; omega
  clear D
  generalize a / n = q at *
  generalize a % n = r at *
  generalize restW a n 3 = r3 at *
  generalize restW a n 2 = r2 at *
  generalize restW a n 1 = r1 at *
  have H3 := Lib.hid D3
  have H2 := Lib.hid D2
  have H1 := Lib.hid D1
  have H0 := Lib.hid D0
  clear D3 D2 D1 D0
  go_enter Try.func29, Try.ntmps29
  go_wp2_with fail
  refine wp_loop_rounds 5 ?_
  rw [rounds_succ]
  go_wp2_with fail
  refine (H3.out _).mono ?_
  rintro e w3 ⟨rfl, hb3⟩
  have hA3 := (show IsBlk _ w.heap.size 25 #[.int .u64 (wd a 0 : Nat), .int .u64 (wd a 1 : Nat), .int .u64 (wd a 2 : Nat), .int .u64 (wd a 3 : Nat)] from by repeat' (first | with_reducible assumption | with_reducible refine IsBlk.drewN ?_ _ | with_reducible refine IsBlk.drew ?_ | with_reducible refine IsBlk.newAt _ _ ?_ | with_reducible refine IsBlk.alloc ?_ _ | with_reducible refine IsBlk.far ?_ ?_ _ | (simp; done) | (simp; omega))).after hb3
  have hO3 := (show IsBlk _ (w.heap.size + 1) 25 #[.int .u64 0, .int .u64 0, .int .u64 0, .int .u64 0] from by repeat' (first | with_reducible assumption | with_reducible refine IsBlk.drewN ?_ _ | with_reducible refine IsBlk.drew ?_ | with_reducible refine IsBlk.newAt _ _ ?_ | with_reducible refine IsBlk.alloc ?_ _ | with_reducible refine IsBlk.far ?_ ?_ _ | (simp; done) | (simp; omega))).after hb3
  have hB3 := (show Below w.heap.size w _ from by repeat' (first | exact Below.refl _ _ | refine bel_drewN ?_ _ | refine Below.drew ?_ | refine Below.alloc ?_ ?_ _ | refine Below.setCell ?_ ?_ _ | exact Nat.le_refl _ | (simp; done) | (simp; omega) | assumption)).trans (hb3.mono (by simp <;> omega))
  clear hb3
  have x0 := hA3.cell 0
  have x1 := hA3.cell 1
  have x2 := hA3.cell 2
  have x3 := hA3.cell 3
  simp at x0 x1 x2 x3
  have frx := hA3.free
  have o0 := hO3.cell 0
  have o1 := hO3.cell 1
  have o2 := hO3.cell 2
  have o3 := hO3.cell 3
  simp at o0 o1 o2 o3
  have fro := hO3.free
  have la := hA3.lt
  have lo := hO3.lt
  go_wp2_with fail
  rw [rounds_succ]
  go_wp2_with fail
  refine (H2.out _).mono ?_
  rintro e w2 ⟨rfl, hb2⟩
  have hA2 := (hA3.far (p := ⟨w.heap.size + 1, 3, none⟩) (by simp) (.int .u64 (wd q 3 : Nat))).after hb2
  have hO2 := (hO3.put 3 (.int .u64 (wd q 3 : Nat))).after hb2
  have hB2 := bel_on (hB3.setCell (p := ⟨w.heap.size + 1, 3, none⟩) (by simp) (.int .u64 (wd q 3 : Nat))) hb2
  clear hA3 hO3 hB3 x0 x1 x2 x3 frx o0 o1 o2 o3 fro la lo
  clear hb2
  have x0 := hA2.cell 0
  have x1 := hA2.cell 1
  have x2 := hA2.cell 2
  have x3 := hA2.cell 3
  simp at x0 x1 x2 x3
  have frx := hA2.free
  have o0 := hO2.cell 0
  have o1 := hO2.cell 1
  have o2 := hO2.cell 2
  have o3 := hO2.cell 3
  simp at o0 o1 o2 o3
  have fro := hO2.free
  have la := hA2.lt
  have lo := hO2.lt
  go_wp2_with fail
  rw [rounds_succ]
  go_wp2_with fail
  refine (H1.out _).mono ?_
  rintro e w1 ⟨rfl, hb1⟩
  have hA1 := (hA2.far (p := ⟨w.heap.size + 1, 2, none⟩) (by simp) (.int .u64 (wd q 2 : Nat))).after hb1
  have hO1 := (hO2.put 2 (.int .u64 (wd q 2 : Nat))).after hb1
  have hB1 := bel_on (hB2.setCell (p := ⟨w.heap.size + 1, 2, none⟩) (by simp) (.int .u64 (wd q 2 : Nat))) hb1
  clear hA2 hO2 hB2 x0 x1 x2 x3 frx o0 o1 o2 o3 fro la lo
  clear hb1
  have x0 := hA1.cell 0
  have x1 := hA1.cell 1
  have x2 := hA1.cell 2
  have x3 := hA1.cell 3
  simp at x0 x1 x2 x3
  have frx := hA1.free
  have o0 := hO1.cell 0
  have o1 := hO1.cell 1
  have o2 := hO1.cell 2
  have o3 := hO1.cell 3
  simp at o0 o1 o2 o3
  have fro := hO1.free
  have la := hA1.lt
  have lo := hO1.lt
  go_wp2_with fail
  rw [rounds_succ]
  go_wp2_with fail
  refine (H0.out _).mono ?_
  rintro e w0 ⟨rfl, hb0⟩
  have hA0 := (hA1.far (p := ⟨w.heap.size + 1, 1, none⟩) (by simp) (.int .u64 (wd q 1 : Nat))).after hb0
  have hO0 := (hO1.put 1 (.int .u64 (wd q 1 : Nat))).after hb0
  have hB0 := bel_on (hB1.setCell (p := ⟨w.heap.size + 1, 1, none⟩) (by simp) (.int .u64 (wd q 1 : Nat))) hb0
  clear hA1 hO1 hB1 x0 x1 x2 x3 frx o0 o1 o2 o3 fro la lo
  clear hb0
  have x0 := hA0.cell 0
  have x1 := hA0.cell 1
  have x2 := hA0.cell 2
  have x3 := hA0.cell 3
  simp at x0 x1 x2 x3
  have frx := hA0.free
  have o0 := hO0.cell 0
  have o1 := hO0.cell 1
  have o2 := hO0.cell 2
  have o3 := hO0.cell 3
  simp at o0 o1 o2 o3
  have fro := hO0.free
  have la := hA0.lt
  have lo := hO0.lt
  go_wp2_with fail
  rw [rounds_succ]
  go_wp2_with fail
  have z := ((((hO0.put 0 (.int .u64 (wd q 0 : Nat))).put 0 (.int .u64 (wd q 0 : Nat))).put 1 (.int .u64 (wd q 1 : Nat))).put 2 (.int .u64 (wd q 2 : Nat))).put 3 (.int .u64 (wd q 3 : Nat))
  have z0 := z.cell 0
  have z1 := z.cell 1
  have z2 := z.cell 2
  have z3 := z.cell 3
  simp at z0 z1 z2 z3
  refine bodyPost_ret (v := .tuple #[.agg #[.int .u64 (wd q 0 : Nat), .int .u64 (wd q 1 : Nat), .int .u64 (wd q 2 : Nat), .int .u64 (wd q 3 : Nat)], .int .u64 (r : Nat), .int .i64 0]) ?_ rfl ⟨rfl, ?_⟩
  · simp [results, Try.results29, go_sem, z0, z1, z2, z3]
  · exact ((((hB0.setCell (by simp) _).setCell (by simp) _).setCell (by simp) _).setCell (by simp) _).setCell (by simp) _

set_option maxRecDepth 100000 in
set_option maxHeartbeats 2000000 in
theorem div_zero (a : Nat) (w : World) :
    Calls Try.prog 29 #[.agg #[.int .u64 (wd a 0 : Nat), .int .u64 (wd a 1 : Nat), .int .u64 (wd a 2 : Nat), .int .u64 (wd a 3 : Nat)], .int .u64 0] w (BRet (.tuple #[.agg #[.int .u64 0, .int .u64 0, .int .u64 0, .int .u64 0], .int .u64 0, .int .i64 2]) w) := by
  go_enter Try.func29, Try.ntmps29
  go_wp2_with fail
  exact bodyPost_ret (v := .tuple #[.agg #[.int .u64 0, .int .u64 0, .int .u64 0, .int .u64 0], .int .u64 0, .int .i64 2]) (by simp [results, Try.results29, go_sem]) rfl ⟨rfl, by repeat' (first | exact Below.refl _ _ | refine bel_drewN ?_ _ | refine Below.drew ?_ | refine Below.alloc ?_ ?_ _ | refine Below.setCell ?_ ?_ _ | exact Nat.le_refl _ | (simp; done) | (simp; omega) | assumption)⟩
end Go.Proofs.Ythmaijmjhfngpaa
