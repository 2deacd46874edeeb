/- The program's functions on numbers of four words, continued. -/
import Derived.Test.YthmaijmjhfngpaaWideA
import Derived.Test.YthmaijmjhfngpaaWidePm
namespace Go.Proofs.Ythmaijmjhfngpaa
open Go.RowKit

theorem run_sub (x y b : Nat) (hb : b ≤ 1) (w : World) :
    (callFunc 44 #[.int .u64 x, .int .u64 y, .int .u64 b]).run Try.prog w =
      .ok (.value (.tuple #[.int .u64 (((x + 18446744073709551616 - y - b) % 18446744073709551616 : Nat) : Int), .int .u64 ((if x < y + b then 1 else 0 : Nat) : Int)])) w := by
  rw [run_callFunc_extern Try.func44 (by kernel_rfl) (by kernel_rfl) (by kernel_rfl) (e := sub64Entry) (by kernel_rfl), run_sub64 x y b hb]
  rfl

set_option maxRecDepth 100000 in
set_option maxHeartbeats 1000000 in
theorem sub_any (a b : Nat) (w : World) (ha : a < w256) (hb : b < w256) :
    Calls Try.prog 21 #[.agg #[.int .u64 (wd a 0 : Nat), .int .u64 (wd a 1 : Nat), .int .u64 (wd a 2 : Nat), .int .u64 (wd a 3 : Nat)], .agg #[.int .u64 (wd b 0 : Nat), .int .u64 (wd b 1 : Nat), .int .u64 (wd b 2 : Nat), .int .u64 (wd b 3 : Nat)]] w (BRet (.tuple #[.agg #[.int .u64 (wd (subN a b) 0 : Nat), .int .u64 (wd (subN a b) 1 : Nat), .int .u64 (wd (subN a b) 2 : Nat), .int .u64 (wd (subN a b) 3 : Nat)], .bool (subLess a b)]) w) := by
  have r0 : ∀ w, (callFunc 44 #[.int .u64 (wd a 0 : Nat), .int .u64 (wd b 0 : Nat), .int .u64 0]).run Try.prog w = .ok (.value (.tuple #[.int .u64 (wd (subN a b) 0 : Nat), .int .u64 (bw a b 1 : Nat)])) w := fun w => by
    rw [(sub_wd ha hb (k := 0) (by omega)).1, (sub_wd ha hb (k := 0) (by omega)).2, bw_zero]; exact run_sub _ _ 0 (by omega) w
  have r1 : ∀ w, (callFunc 44 #[.int .u64 (wd a 1 : Nat), .int .u64 (wd b 1 : Nat), .int .u64 (bw a b 1 : Nat)]).run Try.prog w = .ok (.value (.tuple #[.int .u64 (wd (subN a b) 1 : Nat), .int .u64 (bw a b 2 : Nat)])) w := fun w => by
    rw [(sub_wd ha hb (k := 1) (by omega)).1, (sub_wd ha hb (k := 1) (by omega)).2]; exact run_sub _ _ _ (bw_le _ _ _) w
  have r2 : ∀ w, (callFunc 44 #[.int .u64 (wd a 2 : Nat), .int .u64 (wd b 2 : Nat), .int .u64 (bw a b 2 : Nat)]).run Try.prog w = .ok (.value (.tuple #[.int .u64 (wd (subN a b) 2 : Nat), .int .u64 (bw a b 3 : Nat)])) w := fun w => by
    rw [(sub_wd ha hb (k := 2) (by omega)).1, (sub_wd ha hb (k := 2) (by omega)).2]; exact run_sub _ _ _ (bw_le _ _ _) w
  have r3 : ∀ w, (callFunc 44 #[.int .u64 (wd a 3 : Nat), .int .u64 (wd b 3 : Nat), .int .u64 (bw a b 3 : Nat)]).run Try.prog w = .ok (.value (.tuple #[.int .u64 (wd (subN a b) 3 : Nat), .int .u64 (bw a b 4 : Nat)])) w := fun w => by
    rw [(sub_wd ha hb (k := 3) (by omega)).1, (sub_wd ha hb (k := 3) (by omega)).2]; exact run_sub _ _ _ (bw_le _ _ _) w
  have hov := bw_four ha hb
  go_enter Try.func21, Try.ntmps21
  go_wp2_with fail
  refine wp_loop_rounds 5 ?_
  rw [rounds_succ]
  go_wp2_with fail
  go_region
  go_wp2_with fail
  rw [rounds_succ]
  go_wp2_with fail
  go_region
  go_wp2_with fail
  rw [rounds_succ]
  go_wp2_with fail
  go_region
  go_wp2_with fail
  rw [rounds_succ]
  go_wp2_with fail
  go_region
  go_wp2_with fail
  rw [rounds_succ]
  go_wp2_with fail
  exact bodyPost_ret (v := .tuple #[.agg #[.int .u64 (wd (subN a b) 0 : Nat), .int .u64 (wd (subN a b) 1 : Nat), .int .u64 (wd (subN a b) 2 : Nat), .int .u64 (wd (subN a b) 3 : Nat)], .bool (subLess a b)]) (by simp [results, Try.results21, go_sem]) rfl ⟨rfl, by repeat' (first | exact Below.refl _ _ | refine bel_drewN ?_ _ | refine Below.drew ?_ | refine Below.alloc ?_ ?_ _ | refine Below.setCell ?_ ?_ _ | exact Nat.le_refl _ | (simp; done) | (simp; omega) | assumption)⟩

set_option maxRecDepth 100000 in
set_option maxHeartbeats 1000000 in
theorem not_any (a : Nat) (w : World) (ha : a < w256) : Calls Try.prog 25 #[.agg #[.int .u64 (wd a 0 : Nat), .int .u64 (wd a 1 : Nat), .int .u64 (wd a 2 : Nat), .int .u64 (wd a 3 : Nat)]] w (BRet (.agg #[.int .u64 (wd (notN a) 0 : Nat), .int .u64 (wd (notN a) 1 : Nat), .int .u64 (wd (notN a) 2 : Nat), .int .u64 (wd (notN a) 3 : Nat)]) w) := by
  have x0 := not_bits ha (k := 0) (by omega)
  have x1 := not_bits ha (k := 1) (by omega)
  have x2 := not_bits ha (k := 2) (by omega)
  have x3 := not_bits ha (k := 3) (by omega)
  go_enter Try.func25, Try.ntmps25
  go_wp2_with fail
  refine wp_loop_rounds 5 ?_
  rw [rounds_succ]
  go_wp2_with fail
  skip
  rw [rounds_succ]
  go_wp2_with fail
  skip
  rw [rounds_succ]
  go_wp2_with fail
  skip
  rw [rounds_succ]
  go_wp2_with fail
  skip
  rw [rounds_succ]
  go_wp2_with fail
  exact bodyPost_ret (v := .agg #[.int .u64 (wd (notN a) 0 : Nat), .int .u64 (wd (notN a) 1 : Nat), .int .u64 (wd (notN a) 2 : Nat), .int .u64 (wd (notN a) 3 : Nat)]) (by simp [results, Try.results25, go_sem]) rfl ⟨rfl, by repeat' (first | exact Below.refl _ _ | refine bel_drewN ?_ _ | refine Below.drew ?_ | refine Below.alloc ?_ ?_ _ | refine Below.setCell ?_ ?_ _ | exact Nat.le_refl _ | (simp; done) | (simp; omega) | assumption)⟩

set_option maxHeartbeats 1000000 in
theorem of_any (n : Int) (w : World) : Calls Try.prog 23 #[.int .u64 n] w (BRet (.agg #[.int .u64 n, .int .u64 0, .int .u64 0, .int .u64 0]) w) := by
  go_enter Try.func23, Try.ntmps23
  go_wp2_with fail
  exact bodyPost_ret (v := .agg #[.int .u64 n, .int .u64 0, .int .u64 0, .int .u64 0]) (by simp [results, Try.results23, go_sem]) rfl ⟨rfl, by repeat' (first | exact Below.refl _ _ | refine bel_drewN ?_ _ | refine Below.drew ?_ | refine Below.alloc ?_ ?_ _ | refine Below.setCell ?_ ?_ _ | exact Nat.le_refl _ | (simp; done) | (simp; omega) | assumption)⟩

set_option maxHeartbeats 1000000 in
theorem isNaN_any (x : Int) (w : World) : Calls Try.prog 57 #[.int .u64 x] w fun e w' => e = .returned (.bool false) ∧ w = w' := by
  have hx : (x != x) = false := by simp
  go_enter Try.func57, Try.ntmps57
  go_wp2_with fail
  go_ret
  exact ⟨rfl, rfl⟩

set_option maxHeartbeats 1000000 in
theorem compare_any (x y : Nat) (w : World) : Calls Try.prog 42 #[.int .u64 x, .int .u64 y] w fun e w' => e = .returned (.int .i64 (cmpN x y)) ∧ w = w' := by
  by_cases h : x < y
  · have e : cmpN x y = -1 := by unfold cmpN; simp [h]
    rw [e]
    go_enter Try.func42, Try.ntmps42
    go_wp2_with fail
    refine (isNaN_any _ _).mono ?_
    rintro e w' ⟨rfl, rfl⟩
    go_wp2_with fail
    refine (isNaN_any _ _).mono ?_
    rintro e w' ⟨rfl, rfl⟩
    go_wp2_with fail
    go_ret
    exact ⟨rfl, rfl⟩
  · by_cases h2 : y < x
    · have e : cmpN x y = 1 := by unfold cmpN; rw [if_neg h, if_neg (by omega)]
      rw [e]
      go_enter Try.func42, Try.ntmps42
      go_wp2_with fail
      refine (isNaN_any _ _).mono ?_
      rintro e w' ⟨rfl, rfl⟩
      go_wp2_with fail
      refine (isNaN_any _ _).mono ?_
      rintro e w' ⟨rfl, rfl⟩
      go_wp2_with fail
      go_ret
      exact ⟨rfl, rfl⟩
    · have e : cmpN x y = 0 := by unfold cmpN; rw [if_neg h, if_pos (by omega)]
      rw [e]
      go_enter Try.func42, Try.ntmps42
      go_wp2_with fail
      refine (isNaN_any _ _).mono ?_
      rintro e w' ⟨rfl, rfl⟩
      go_wp2_with fail
      refine (isNaN_any _ _).mono ?_
      rintro e w' ⟨rfl, rfl⟩
      go_wp2_with fail
      go_ret
      exact ⟨rfl, rfl⟩

def mhi (a n k : Nat) : Nat := wd a k * n / 18446744073709551616
def mlo (a n k : Nat) : Nat := wd a k * n % 18446744073709551616
def mca (a n k : Nat) : Nat := (mlo a n k + mo a n k) / 18446744073709551616
theorem mul_step (a n k : Nat) (hk : k < 4) : (mlo a n k + mo a n k) % 18446744073709551616 = wd (mulN a n) k ∧ mhi a n k + mca a n k = mo a n (k + 1) := by
  rw [mul_wd a n k hk, mo_next]
  unfold mca mhi mlo
  omega

set_option maxRecDepth 100000 in
set_option maxHeartbeats 1000000 in
theorem mul_any (a n : Nat) (w : World) (ha : a < w256) (hn : n < 18446744073709551616) :
    Calls Try.prog 28 #[.agg #[.int .u64 (wd a 0 : Nat), .int .u64 (wd a 1 : Nat), .int .u64 (wd a 2 : Nat), .int .u64 (wd a 3 : Nat)], .int .u64 n] w (BRet (.tuple #[.agg #[.int .u64 (wd (mulN a n) 0 : Nat), .int .u64 (wd (mulN a n) 1 : Nat), .int .u64 (wd (mulN a n) 2 : Nat), .int .u64 (wd (mulN a n) 3 : Nat)], .int .u64 (mulOv a n : Nat)]) w) := by
  have r : ∀ k, k < 4 → ∀ w, (callFunc 45 #[.int .u64 (mlo a n k : Nat), .int .u64 (mo a n k : Nat), .int .u64 0]).run Try.prog w = .ok (.value (.tuple #[.int .u64 (wd (mulN a n) k : Nat), .int .u64 (mca a n k : Nat)])) w := fun k hk w => by
    rw [← (mul_step a n k hk).1]; exact run_add _ _ 0 (by omega) w
  have r0 := r 0 (by omega)
  rw [mo_zero] at r0
  have r0' : ∀ w, (callFunc 45 #[.int .u64 (mlo a n 0 : Nat), .int .u64 0, .int .u64 0]).run Try.prog w = .ok (.value (.tuple #[.int .u64 (wd (mulN a n) 0 : Nat), .int .u64 (mca a n 0 : Nat)])) w := r0
  have r1 := r 1 (by omega)
  have r2 := r 2 (by omega)
  have r3 := r 3 (by omega)
  have M := Lib.hid (show ∀ k w, Calls Try.prog 48 #[.int .u64 (wd a k : Nat), .int .u64 n] w fun e w' => e = .returned (.tuple #[.int .u64 (mhi a n k : Nat), .int .u64 (mlo a n k : Nat)]) ∧ w = w' from fun k w => (Try.bits_Mul64 _ _ (wd_lt a k) hn w).mono fun _ _ ⟨h1, h2⟩ => ⟨h1, h2.symm⟩)
  have e0 : ((mhi a n 0 : Nat) : Int) + ((mca a n 0 : Nat) : Int) = ((mo a n 1 : Nat) : Int) := by have : mhi a n 0 + mca a n 0 = mo a n 1 := (mul_step a n 0 (by omega)).2; omega
  have e1 : ((mhi a n 1 : Nat) : Int) + ((mca a n 1 : Nat) : Int) = ((mo a n 2 : Nat) : Int) := by have : mhi a n 1 + mca a n 1 = mo a n 2 := (mul_step a n 1 (by omega)).2; omega
  have e2 : ((mhi a n 2 : Nat) : Int) + ((mca a n 2 : Nat) : Int) = ((mo a n 3 : Nat) : Int) := by have : mhi a n 2 + mca a n 2 = mo a n 3 := (mul_step a n 2 (by omega)).2; omega
  have e3 : ((mhi a n 3 : Nat) : Int) + ((mca a n 3 : Nat) : Int) = ((mulOv a n : Nat) : Int) := by have : mhi a n 3 + mca a n 3 = mo a n 4 := (mul_step a n 3 (by omega)).2; have := mo_four (n := n) ha; omega
  have b1 : ((mo a n 1 : Nat) : Int) ≤ 18446744073709551615 := by have := mo_bd a n 1 hn; omega
  have b2 : ((mo a n 2 : Nat) : Int) ≤ 18446744073709551615 := by have := mo_bd a n 2 hn; omega
  have b3 : ((mo a n 3 : Nat) : Int) ≤ 18446744073709551615 := by have := mo_bd a n 3 hn; omega
  have b4 : ((mulOv a n : Nat) : Int) ≤ 18446744073709551615 := by have := mo_bd a n 4 hn; have := mo_four (n := n) ha; omega
  clear r r0
  go_enter Try.func28, Try.ntmps28
  go_wp2_with fail
  refine wp_loop_rounds 5 ?_
  rw [rounds_succ]
  go_wp2_with fail
  refine (M.out _ _).mono ?_
  rintro e w' ⟨rfl, rfl⟩
  go_wp2_with fail
  rw [rounds_succ]
  go_wp2_with fail
  refine (M.out _ _).mono ?_
  rintro e w' ⟨rfl, rfl⟩
  go_wp2_with fail
  rw [rounds_succ]
  go_wp2_with fail
  refine (M.out _ _).mono ?_
  rintro e w' ⟨rfl, rfl⟩
  go_wp2_with fail
  rw [rounds_succ]
  go_wp2_with fail
  refine (M.out _ _).mono ?_
  rintro e w' ⟨rfl, rfl⟩
  go_wp2_with fail
  rw [rounds_succ]
  go_wp2_with fail
  exact bodyPost_ret (v := .tuple #[.agg #[.int .u64 (wd (mulN a n) 0 : Nat), .int .u64 (wd (mulN a n) 1 : Nat), .int .u64 (wd (mulN a n) 2 : Nat), .int .u64 (wd (mulN a n) 3 : Nat)], .int .u64 (mulOv a n : Nat)]) (by simp [results, Try.results28, go_sem]) rfl ⟨rfl, by repeat' (first | exact Below.refl _ _ | refine bel_drewN ?_ _ | refine Below.drew ?_ | refine Below.alloc ?_ ?_ _ | refine Below.setCell ?_ ?_ _ | exact Nat.le_refl _ | (simp; done) | (simp; omega) | assumption)⟩

/-! ### Order -/
set_option maxRecDepth 100000 in
set_option maxHeartbeats 1000000 in
theorem cmp_any (a b : Nat) (w : World) (ha : a < w256) (hb : b < w256) :
    Calls Try.prog 19 #[.agg #[.int .u64 (wd a 0 : Nat), .int .u64 (wd a 1 : Nat), .int .u64 (wd a 2 : Nat), .int .u64 (wd a 3 : Nat)], .agg #[.int .u64 (wd b 0 : Nat), .int .u64 (wd b 1 : Nat), .int .u64 (wd b 2 : Nat), .int .u64 (wd b 3 : Nat)]] w (BRet (.int .i64 (cmpN a b)) w) := by
  obtain ⟨c3, c2, c1, c0⟩ := cmp_hi ha hb
  have N := fun i j => (show (wd a i ≠ wd b j → (((wd a i : Nat) : Int) != ((wd b j : Nat) : Int)) = true) from fun h => by simp; omega)
  have E := fun i j => (show (wd a i = wd b j → (((wd a i : Nat) : Int) != ((wd b j : Nat) : Int)) = false) from fun h => by simp [h])
  by_cases h3 : wd a 3 = wd b 3
  · have t3 := E 3 3 h3
    by_cases h2 : wd a 2 = wd b 2
    · have t2 := E 2 2 h2
      by_cases h1 : wd a 1 = wd b 1
      · have t1 := E 1 1 h1
        rw [c0 h3 h2 h1]
        clear c3 c2 c1 c0 N E h3 h2 h1
        go_enter Try.func19, Try.ntmps19
        go_wp2_with fail
        refine wp_loop_rounds 4 ?_
        rw [rounds_succ]
        go_wp2_with fail
        go_quiet (fail)
        go_wp2_with fail
        rw [rounds_succ]
        go_wp2_with fail
        go_quiet (fail)
        go_wp2_with fail
        rw [rounds_succ]
        go_wp2_with fail
        go_quiet (fail)
        go_wp2_with fail
        rw [rounds_succ]
        go_wp2_with fail
        refine (compare_any _ _ _).mono ?_
        rintro e w' ⟨rfl, rfl⟩
        go_wp2_with fail
        go_ret
        exact ⟨rfl, by repeat' (first | exact Below.refl _ _ | refine bel_drewN ?_ _ | refine Below.drew ?_ | refine Below.alloc ?_ ?_ _ | refine Below.setCell ?_ ?_ _ | exact Nat.le_refl _ | (simp; done) | (simp; omega) | assumption)⟩
      · have t1 := N 1 1 h1
        rw [c1 h3 h2 h1]
        clear c3 c2 c1 c0 N E h3 h2 h1
        go_enter Try.func19, Try.ntmps19
        go_wp2_with fail
        refine wp_loop_rounds 3 ?_
        rw [rounds_succ]
        go_wp2_with fail
        go_quiet (fail)
        go_wp2_with fail
        rw [rounds_succ]
        go_wp2_with fail
        go_quiet (fail)
        go_wp2_with fail
        rw [rounds_succ]
        go_wp2_with fail
        go_quiet (fail)
        go_wp2_with fail
        go_quiet ((go_at_call 42; exact quiet_add_left (compare_any _ _ _)))
        go_wp2_with fail
        go_ret
        exact ⟨rfl, by repeat' (first | exact Below.refl _ _ | refine bel_drewN ?_ _ | refine Below.drew ?_ | refine Below.alloc ?_ ?_ _ | refine Below.setCell ?_ ?_ _ | exact Nat.le_refl _ | (simp; done) | (simp; omega) | assumption)⟩
    · have t2 := N 2 2 h2
      rw [c2 h3 h2]
      clear c3 c2 c1 c0 N E h3 h2
      go_enter Try.func19, Try.ntmps19
      go_wp2_with fail
      refine wp_loop_rounds 2 ?_
      rw [rounds_succ]
      go_wp2_with fail
      go_quiet (fail)
      go_wp2_with fail
      rw [rounds_succ]
      go_wp2_with fail
      go_quiet (fail)
      go_wp2_with fail
      go_quiet ((go_at_call 42; exact quiet_add_left (compare_any _ _ _)))
      go_wp2_with fail
      go_ret
      exact ⟨rfl, by repeat' (first | exact Below.refl _ _ | refine bel_drewN ?_ _ | refine Below.drew ?_ | refine Below.alloc ?_ ?_ _ | refine Below.setCell ?_ ?_ _ | exact Nat.le_refl _ | (simp; done) | (simp; omega) | assumption)⟩
  · have t3 := N 3 3 h3
    rw [c3 h3]
    clear c3 c2 c1 c0 N E h3
    go_enter Try.func19, Try.ntmps19
    go_wp2_with fail
    refine wp_loop_rounds 1 ?_
    rw [rounds_succ]
    go_wp2_with fail
    go_quiet (fail)
    go_wp2_with fail
    go_quiet ((go_at_call 42; exact quiet_add_left (compare_any _ _ _)))
    go_wp2_with fail
    go_ret
    exact ⟨rfl, by repeat' (first | exact Below.refl _ _ | refine bel_drewN ?_ _ | refine Below.drew ?_ | refine Below.alloc ?_ ?_ _ | refine Below.setCell ?_ ?_ _ | exact Nat.le_refl _ | (simp; done) | (simp; omega) | assumption)⟩
end Go.Proofs.Ythmaijmjhfngpaa
