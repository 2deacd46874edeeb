/- The law of order, joined. -/
import Derived.Test.YthmaijmjhfngpaaTgN
import Derived.Test.YthmaijmjhfngpaaTgT
namespace Go.Proofs.Ythmaijmjhfngpaa
open Go.RowKit

set_option maxRecDepth 100000 in
set_option maxHeartbeats 8000000 in
theorem order_bad (b0 b1 b2 X Y : Nat) (e f : Int) (t1 t2 : Bool) (ch : Array Value) (w : World) (h1 : (e != 0) = t1) (h2 : (f != 0) = t2) (hb : t1 = true ∨ t2 = true)
    (K1 : Hid (∀ w, Calls Try.prog 10 #[.int .u32 b0] w (BRet (.tuple #[.agg #[.int .u64 (wd X 0 : Nat), .int .u64 (wd X 1 : Nat), .int .u64 (wd X 2 : Nat), .int .u64 (wd X 3 : Nat)], .int .i64 e]) w)))
    (K2 : Hid (∀ w, Calls Try.prog 10 #[.int .u32 b1] w (BRet (.tuple #[.agg #[.int .u64 (wd Y 0 : Nat), .int .u64 (wd Y 1 : Nat), .int .u64 (wd Y 2 : Nat), .int .u64 (wd Y 3 : Nat)], .int .i64 f]) w)))
    (AW : Hid (∀ w, Calls Try.prog 14 #[] w (BRet (.bool true) w))) :
    Calls Try.prog 6 #[.agg #[.int .u32 (b0 : Nat), .int .u32 (b1 : Nat), .int .u32 (b2 : Nat)], .agg ch] w (BRet (.bool true) w) := by
  cases t1
  · cases t2
    · rcases hb with h | h <;> cases h
    · clear hb
      go_enter Try.func6, Try.ntmps6
      go_wp2_with fail
      refine (K1.out _).mono ?_
      rintro e w1 ⟨rfl, hb1⟩
      have hi := (show IsBlk _ w.heap.size 45 #[.int .u32 (b0 : Nat), .int .u32 (b1 : Nat), .int .u32 (b2 : Nat)] from (IsBlk.newAt _ _ rfl).alloc _).after hb1
      have HB1 := Lib.hid ((show Below w.heap.size w _ from by repeat' (first | exact Below.refl _ _ | refine bel_drewN ?_ _ | refine Below.drew ?_ | refine Below.alloc ?_ ?_ _ | refine Below.setCell ?_ ?_ _ | exact Nat.le_refl _ | (simp; done) | (simp; omega) | assumption)).trans (hb1.mono (by simp <;> omega)))
      have c0 := hi.cell 0
      have c1 := hi.cell 1
      have c2 := hi.cell 2
      simp at c0 c1 c2
      have li := hi.lt
      clear hi hb1
      go_wp2_with fail
      refine (K2.out _).mono ?_
      rintro e w2 ⟨rfl, hb2⟩
      have HB2 := Lib.hid (bel_on (bel_al HB1.out _) hb2)
      clear hb2 c0 c1 c2 li
      go_wp2_with fail
      refine (AW.out _).mono ?_
      rintro e w3 ⟨rfl, hb3⟩
      have HB3 := Lib.hid (bel_on (bel_al HB2.out _) hb3)
      clear hb3
      go_wp2_with fail
      go_ret
      exact ⟨rfl, HB3.out⟩
  · clear hb
    go_enter Try.func6, Try.ntmps6
    go_wp2_with fail
    refine (K1.out _).mono ?_
    rintro e w1 ⟨rfl, hb1⟩
    have hi := (show IsBlk _ w.heap.size 45 #[.int .u32 (b0 : Nat), .int .u32 (b1 : Nat), .int .u32 (b2 : Nat)] from (IsBlk.newAt _ _ rfl).alloc _).after hb1
    have HB1 := Lib.hid ((show Below w.heap.size w _ from by repeat' (first | exact Below.refl _ _ | refine bel_drewN ?_ _ | refine Below.drew ?_ | refine Below.alloc ?_ ?_ _ | refine Below.setCell ?_ ?_ _ | exact Nat.le_refl _ | (simp; done) | (simp; omega) | assumption)).trans (hb1.mono (by simp <;> omega)))
    have c0 := hi.cell 0
    have c1 := hi.cell 1
    have c2 := hi.cell 2
    simp at c0 c1 c2
    have li := hi.lt
    clear hi hb1
    go_wp2_with fail
    refine (K2.out _).mono ?_
    rintro e w2 ⟨rfl, hb2⟩
    have HB2 := Lib.hid (bel_on (bel_al HB1.out _) hb2)
    clear hb2 c0 c1 c2 li
    go_wp2_with fail
    refine (AW.out _).mono ?_
    rintro e w3 ⟨rfl, hb3⟩
    have HB3 := Lib.hid (bel_on (bel_al HB2.out _) hb3)
    clear hb3
    go_wp2_with fail
    go_ret
    exact ⟨rfl, HB3.out⟩

theorem order_case (b0 b1 b2 X Y V U N Z q r R1 D : Nat) (M1 M2 m n : Int) (tie : Bool) (ov1 ov2 ov3 : Bool) (ch : Array Value) (hch : ch.size = 32) (w : World)
    (hMN : (M1 < 0 ∧ ¬ 0 ≤ M1 ∧ ¬ M2 < 0) ∨ (M1 = 0 ∧ ¬ M2 < 0 ∧ ¬ 0 < M2 ∧ True) ∨ (0 < M1 ∧ ¬ M1 ≤ 0 ∧ ¬ 0 < M2))
    (hmn : ¬ M1 ≤ 0 ∨ (M1 ≤ 0 ∧ (m == 0) = false) ∨ (M1 ≤ 0 ∧ (m == 0) = true ∧ (n == 10) = false))
    (hF0 : tie = false → q = V)
    (hF1 : tie = true → D = V)
    (EV : ∀ w, (binOp .eql 25 (.agg #[.int .u64 (wd V 0 : Nat), .int .u64 (wd V 1 : Nat), .int .u64 (wd V 2 : Nat), .int .u64 (wd V 3 : Nat)]) (.agg #[.int .u64 0, .int .u64 0, .int .u64 0, .int .u64 0])).run Try.prog w = .ok (.bool false) w)
    (EU : ∀ w, (binOp .eql 25 (.agg #[.int .u64 (wd U 0 : Nat), .int .u64 (wd U 1 : Nat), .int .u64 (wd U 2 : Nat), .int .u64 (wd U 3 : Nat)]) (.agg #[.int .u64 0, .int .u64 0, .int .u64 0, .int .u64 0])).run Try.prog w = .ok (.bool false) w)
    (ER : ∀ w, (binOp .eql 25 (.agg #[.int .u64 (wd R1 0 : Nat), .int .u64 (wd R1 1 : Nat), .int .u64 (wd R1 2 : Nat), .int .u64 (wd R1 3 : Nat)]) (.agg #[.int .u64 (wd N 0 : Nat), .int .u64 (wd N 1 : Nat), .int .u64 (wd N 2 : Nat), .int .u64 (wd N 3 : Nat)])).run Try.prog w = .ok (.bool tie) w)
    (K1 : Hid (∀ w, Calls Try.prog 10 #[.int .u32 b0] w (BRet (.tuple #[.agg #[.int .u64 (wd X 0 : Nat), .int .u64 (wd X 1 : Nat), .int .u64 (wd X 2 : Nat), .int .u64 (wd X 3 : Nat)], .int .i64 0]) w)))
    (K2 : Hid (∀ w, Calls Try.prog 10 #[.int .u32 b1] w (BRet (.tuple #[.agg #[.int .u64 (wd Y 0 : Nat), .int .u64 (wd Y 1 : Nat), .int .u64 (wd Y 2 : Nat), .int .u64 (wd Y 3 : Nat)], .int .i64 0]) w)))
    (KV : Hid (∀ w, Calls Try.prog 17 #[.int .u32 b0] w (BRet (.agg #[.int .u64 (wd V 0 : Nat), .int .u64 (wd V 1 : Nat), .int .u64 (wd V 2 : Nat), .int .u64 (wd V 3 : Nat)]) w)))
    (KU : Hid (∀ w, Calls Try.prog 17 #[.int .u32 b1] w (BRet (.agg #[.int .u64 (wd U 0 : Nat), .int .u64 (wd U 1 : Nat), .int .u64 (wd U 2 : Nat), .int .u64 (wd U 3 : Nat)]) w)))
    (K3 : Hid (∀ w, Calls Try.prog 19 #[.agg #[.int .u64 (wd X 0 : Nat), .int .u64 (wd X 1 : Nat), .int .u64 (wd X 2 : Nat), .int .u64 (wd X 3 : Nat)], .agg #[.int .u64 (wd Y 0 : Nat), .int .u64 (wd Y 1 : Nat), .int .u64 (wd Y 2 : Nat), .int .u64 (wd Y 3 : Nat)]] w (BRet (.int .i64 M1) w)))
    (K4 : Hid (∀ w, Calls Try.prog 19 #[.agg #[.int .u64 (wd V 0 : Nat), .int .u64 (wd V 1 : Nat), .int .u64 (wd V 2 : Nat), .int .u64 (wd V 3 : Nat)], .agg #[.int .u64 (wd U 0 : Nat), .int .u64 (wd U 1 : Nat), .int .u64 (wd U 2 : Nat), .int .u64 (wd U 3 : Nat)]] w (BRet (.int .i64 M2) w)))
    (KM : Hid (∀ w, Calls Try.prog 15 #[.agg ch, .int .u32 b0, .int .u32 b2] w (BRet (.int .i64 m) w)))
    (KN : Hid (∀ w, Calls Try.prog 15 #[.agg ch, .int .u32 b1, .int .u32 b2] w (BRet (.int .i64 n) w)))
    (KO : Hid (∀ w, Calls Try.prog 23 #[.int .u64 1] w (BRet (.agg #[.int .u64 1, .int .u64 0, .int .u64 0, .int .u64 0]) w)))
    (K5 : Hid (∀ w, Calls Try.prog 22 #[.agg #[.int .u64 (wd X 0 : Nat), .int .u64 (wd X 1 : Nat), .int .u64 (wd X 2 : Nat), .int .u64 (wd X 3 : Nat)], .agg #[.int .u64 1, .int .u64 0, .int .u64 0, .int .u64 0]] w (BRet (.tuple #[.agg #[.int .u64 (wd N 0 : Nat), .int .u64 (wd N 1 : Nat), .int .u64 (wd N 2 : Nat), .int .u64 (wd N 3 : Nat)], .bool ov1]) w)))
    (K6 : Hid (∀ w, Calls Try.prog 25 #[.agg #[.int .u64 0, .int .u64 0, .int .u64 0, .int .u64 0]] w (BRet (.agg #[.int .u64 (wd Z 0 : Nat), .int .u64 (wd Z 1 : Nat), .int .u64 (wd Z 2 : Nat), .int .u64 (wd Z 3 : Nat)]) w)))
    (K7 : Hid (∀ w, Calls Try.prog 24 #[.agg #[.int .u64 (wd Z 0 : Nat), .int .u64 (wd Z 1 : Nat), .int .u64 (wd Z 2 : Nat), .int .u64 (wd Z 3 : Nat)], .agg #[.int .u64 (wd N 0 : Nat), .int .u64 (wd N 1 : Nat), .int .u64 (wd N 2 : Nat), .int .u64 (wd N 3 : Nat)]] w (BRet (.tuple #[.agg #[.int .u64 (wd q 0 : Nat), .int .u64 (wd q 1 : Nat), .int .u64 (wd q 2 : Nat), .int .u64 (wd q 3 : Nat)], .agg #[.int .u64 (wd r 0 : Nat), .int .u64 (wd r 1 : Nat), .int .u64 (wd r 2 : Nat), .int .u64 (wd r 3 : Nat)], .int .i64 0]) w)))
    (K8 : Hid (∀ w, Calls Try.prog 22 #[.agg #[.int .u64 (wd r 0 : Nat), .int .u64 (wd r 1 : Nat), .int .u64 (wd r 2 : Nat), .int .u64 (wd r 3 : Nat)], .agg #[.int .u64 1, .int .u64 0, .int .u64 0, .int .u64 0]] w (BRet (.tuple #[.agg #[.int .u64 (wd R1 0 : Nat), .int .u64 (wd R1 1 : Nat), .int .u64 (wd R1 2 : Nat), .int .u64 (wd R1 3 : Nat)], .bool ov2]) w)))
    (K9 : Hid (∀ w, Calls Try.prog 22 #[.agg #[.int .u64 (wd q 0 : Nat), .int .u64 (wd q 1 : Nat), .int .u64 (wd q 2 : Nat), .int .u64 (wd q 3 : Nat)], .agg #[.int .u64 1, .int .u64 0, .int .u64 0, .int .u64 0]] w (BRet (.tuple #[.agg #[.int .u64 (wd D 0 : Nat), .int .u64 (wd D 1 : Nat), .int .u64 (wd D 2 : Nat), .int .u64 (wd D 3 : Nat)], .bool ov3]) w)))
    (AW : Hid (∀ w, Calls Try.prog 14 #[] w (BRet (.bool true) w))) :
    Calls Try.prog 6 #[.agg #[.int .u32 (b0 : Nat), .int .u32 (b1 : Nat), .int .u32 (b2 : Nat)], .agg ch] w (BRet (.bool true) w) := by
  cases tie
  · exact order_case0 b0 b1 b2 X Y V U N Z q r R1 D M1 M2 m n ov1 ov2 ov3 ch hch w hMN hmn (hF0 rfl) EV EU ER K1 K2 KV KU K3 K4 KM KN KO K5 K6 K7 K8 K9 AW
  · exact order_case1 b0 b1 b2 X Y V U N Z q r R1 D M1 M2 m n ov1 ov2 ov3 ch hch w hMN hmn (hF1 rfl) EV EU ER K1 K2 KV KU K3 K4 KM KN KO K5 K6 K7 K8 K9 AW

theorem cmp_cases (a b : Nat) : (a < b ∧ cmpN a b = -1) ∨ (a = b ∧ cmpN a b = 0) ∨ (b < a ∧ cmpN a b = 1) := by
  unfold cmpN
  rcases Nat.lt_trichotomy a b with h | h | h
  · left; exact ⟨h, by rw [if_pos h]⟩
  · right; left; exact ⟨h, by rw [if_neg (by omega), if_pos h]⟩
  · right; right; exact ⟨h, by rw [if_neg (by omega), if_neg (by omega)]⟩
theorem work_mono {X Y : Nat} (h : X ≤ Y) : w256 / (Y + 1) ≤ w256 / (X + 1) := Nat.div_le_div_left (by omega) (by omega)
theorem order_walk (f : Nat → Nat) (hf : ∀ j, f j < 256) (ch : Array Value) (hs : ch.size = 32) (hfc : FillB f 32 ch) (b0 b1 b2 : Nat) (w : World) (h0 : b0 < 4294967296) (h1 : b1 < 4294967296) (h2 : b2 < 4294967296) :
    Calls Try.prog 6 #[.agg #[.int .u32 (b0 : Nat), .int .u32 (b1 : Nat), .int .u32 (b2 : Nat)], .agg ch] w (BRet (.bool true) w) := by
  by_cases hb : badB b0 = true ∨ badB b1 = true
  · exact order_bad b0 b1 b2 (xN b0) (xN b1) (xE b0) (xE b1) _ _ ch w (xE_ne b0) (xE_ne b1) hb (Lib.hid fun w => expand_any b0 w h0) (Lib.hid fun w => expand_any b1 w h1) (Lib.hid works_any)
  have g0 : badB b0 = false := by simpa using (fun h => hb (.inl h))
  have g1 : badB b1 = false := by simpa using (fun h => hb (.inr h))
  have e0 := (xE_ok b0).2 g0
  have e1 := (xE_ok b1).2 g1
  have s0 := xN_small b0
  have s1 := xN_small b1
  have n0 := (good_val g0).2
  have n1 := (good_val g1).2
  have V0 : workN b0 = w256 / (xN b0 + 1) := by unfold workN; rw [if_neg (by rw [g0]; exact Bool.false_ne_true)]
  have U0 : workN b1 = w256 / (xN b1 + 1) := by unfold workN; rw [if_neg (by rw [g1]; exact Bool.false_ne_true)]
  have hVl := (work_quot s0 n0).2
  have hUl := (work_quot s1 n1).2
  have hVp : w256 / (xN b0 + 1) ≠ 0 := by
    have : 1 ≤ w256 / (xN b0 + 1) := by rw [Nat.le_div_iff_mul_le (by omega)]; omega
    omega
  have hUp : w256 / (xN b1 + 1) ≠ 0 := by
    have : 1 ≤ w256 / (xN b1 + 1) := by rw [Nat.le_div_iff_mul_le (by omega)]; omega
    omega
  obtain ⟨hr, ht1, ht2⟩ := refWork_quot s0
  have l1 : (1 : Nat) < w256 := by rw [w256_eq]; decide
  have l0 : (0 : Nat) < w256 := by rw [w256_eq]; decide
  have hZ : notN 0 = w256 - 1 := rfl
  have hZl := notN_lt 0
  have hql : notN 0 / (xN b0 + 1) < w256 := Nat.lt_of_le_of_lt (Nat.div_le_self _ _) hZl
  have hR : addN (notN 0 % (xN b0 + 1)) 1 = notN 0 % (xN b0 + 1) + 1 := Nat.mod_eq_of_lt hr
  have hN : addN (xN b0) 1 = xN b0 + 1 := Nat.mod_eq_of_lt s0
  have hzero : ∀ n, n < w256 → n ≠ 0 → ∀ w, (binOp .eql 25 (.agg #[.int .u64 (wd n 0 : Nat), .int .u64 (wd n 1 : Nat), .int .u64 (wd n 2 : Nat), .int .u64 (wd n 3 : Nat)]) (.agg #[.int .u64 0, .int .u64 0, .int .u64 0, .int .u64 0])).run Try.prog w = .ok (.bool false) w := fun n hn hn0 w => by
    have := eqW_zero hn w
    rwa [decide_eq_false hn0] at this
  have hmt : ∀ c, meetN (ofBits (bitsOf f) 256) c b2 = if badB c || badB b2 || decide (xN b2 < xN c) then 11 else if xN c < ofBits (bitsOf f) 256 then 10 else 0 := fun c => rfl
  refine order_case b0 b1 b2 (xN b0) (xN b1) (w256 / (xN b0 + 1)) (w256 / (xN b1 + 1)) (xN b0 + 1) (notN 0) (notN 0 / (xN b0 + 1)) (notN 0 % (xN b0 + 1)) (notN 0 % (xN b0 + 1) + 1) (addN (notN 0 / (xN b0 + 1)) 1) (cmpN (xN b0) (xN b1)) (cmpN (w256 / (xN b0 + 1)) (w256 / (xN b1 + 1)))
    (meetN (ofBits (bitsOf f) 256) b0 b2) (meetN (ofBits (bitsOf f) 256) b1 b2) (decide (notN 0 % (xN b0 + 1) + 1 = xN b0 + 1)) (addOv (xN b0) 1) (addOv (notN 0 % (xN b0 + 1)) 1) (addOv (notN 0 / (xN b0 + 1)) 1) ch hs w ?_ ?_ ?_ ?_ (hzero _ hVl hVp) (hzero _ hUl hUp) ?_
    (Lib.hid fun w => ?_) (Lib.hid fun w => ?_) (Lib.hid fun w => ?_) (Lib.hid fun w => ?_) (Lib.hid fun w => cmp_any _ _ w (xN_lt b0) (xN_lt b1)) (Lib.hid fun w => cmp_any _ _ w hVl hUl)
    (Lib.hid fun w => meets_any f hf ch hs hfc b0 b2 w h0 h2) (Lib.hid fun w => meets_any f hf ch hs hfc b1 b2 w h1 h2) (Lib.hid fun w => of_any 1 w) (Lib.hid fun w => ?_) (Lib.hid fun w => ?_) (Lib.hid fun w => quot_any _ _ w hZl s0 (by omega))
    (Lib.hid fun w => ?_) (Lib.hid fun w => ?_) (Lib.hid works_any)
  · rcases cmp_cases (xN b0) (xN b1) with ⟨h, e⟩ | ⟨h, e⟩ | ⟨h, e⟩
    · left
      have hm := work_mono (Nat.le_of_lt h)
      rcases cmp_cases (w256 / (xN b0 + 1)) (w256 / (xN b1 + 1)) with ⟨h5, e5⟩ | ⟨h5, e5⟩ | ⟨h5, e5⟩ <;> omega
    · right; left
      rw [e, h]
      rcases cmp_cases (w256 / (xN b1 + 1)) (w256 / (xN b1 + 1)) with ⟨h5, e5⟩ | ⟨h5, e5⟩ | ⟨h5, e5⟩
      · omega
      · rw [e5]; simp
      · omega
    · right; right
      have hm := work_mono (Nat.le_of_lt h)
      rcases cmp_cases (w256 / (xN b0 + 1)) (w256 / (xN b1 + 1)) with ⟨h5, e5⟩ | ⟨h5, e5⟩ | ⟨h5, e5⟩ <;> omega
  · rcases cmp_cases (xN b0) (xN b1) with ⟨h, e⟩ | ⟨h, e⟩ | ⟨h, e⟩
    · right
      rw [e]
      by_cases hm : meetN (ofBits (bitsOf f) 256) b0 b2 = 0
      · right
        refine ⟨by decide, by simp [hm], ?_⟩
        rw [hmt] at hm
        rw [hmt]
        split at hm
        · cases hm
        · split at hm
          · cases hm
          · split
            · decide
            · rw [if_neg (by omega)]; decide
      · left; exact ⟨by decide, by simpa using hm⟩
    · right
      rw [e]
      by_cases hm : meetN (ofBits (bitsOf f) 256) b0 b2 = 0
      · right
        refine ⟨by decide, by simp [hm], ?_⟩
        rw [hmt] at hm
        rw [hmt]
        split at hm
        · cases hm
        · split at hm
          · cases hm
          · split
            · decide
            · rw [if_neg (by omega)]; decide
      · left; exact ⟨by decide, by simpa using hm⟩
    · left; rw [e]; decide
  · intro h
    rw [decide_eq_false_iff_not] at h
    exact ht2 h
  · intro h
    rw [decide_eq_true_eq] at h
    have := ht1 h
    unfold addN
    rw [hZ, this]
    exact Nat.mod_eq_of_lt hVl
  · intro w
    by_cases h : notN 0 % (xN b0 + 1) + 1 = xN b0 + 1
    · rw [decide_eq_true h, h]; exact eqW_same _ _ _ _ w
    · rw [decide_eq_false h]; exact eqW_ne hr s0 h w
  · have := expand_any b0 w h0
    rwa [e0] at this
  · have := expand_any b1 w h1
    rwa [e1] at this
  · have := work_any b0 w h0
    rwa [V0] at this
  · have := work_any b1 w h1
    rwa [U0] at this
  · have := add_any (xN b0) 1 w (xN_lt b0) l1
    rwa [hN, lit_one] at this
  · have := not_any 0 w l0
    rwa [lit_zero] at this
  · have := add_any (notN 0 % (xN b0 + 1)) 1 w (Nat.lt_of_succ_lt hr) l1
    rwa [hR, lit_one] at this
  · have := add_any (notN 0 / (xN b0 + 1)) 1 w hql l1
    rwa [lit_one] at this
theorem in_three {H : Type} {enc : TypeId × Value → H} {W : World} {v : Value} {d : DataW H} {p : List MemPlace} {base : Nat} (h : DataW.Trod enc Try.prog W 0 (fun _ => true) true 45 v d p) (o : Value.okWide Try.prog W .any base 45 v) :
    ∃ a b c : Nat, a < 4294967296 ∧ b < 4294967296 ∧ c < 4294967296 ∧ v = .agg #[.int .u32 a, .int .u32 b, .int .u32 c] := by
  obtain ⟨zs, hl, rfl, hz⟩ := in_array Try.underlying45 Try.underlying22 (by kernel_rfl) (by kernel_rfl) h o
  match zs, hl with
  | [z0, z1, z2], _ =>
    obtain ⟨a, rfl, ha⟩ := u32_nat (hz z0 (by simp))
    obtain ⟨b, rfl, hb⟩ := u32_nat (hz z1 (by simp))
    obtain ⟨c, rfl, hc⟩ := u32_nat (hz z2 (by simp))
    exact ⟨a, b, c, ha, hb, hc, rfl⟩
theorem law_TargetOrder {H : Type} {enc : TypeId × Value → H} (W : World) (base : Nat) (v0 v1 : Value) (d0 d1 : DataW H) (p0 p1 : List MemPlace)
    (h0 : DataW.Trod enc Try.prog W 0 (fun _ => true) true 45 v0 d0 p0) (h1 : DataW.Trod enc Try.prog W 0 (fun _ => true) true 35 v1 d1 p1)
    (o0 : Value.okWide Try.prog W .any base 45 v0) (o1 : Value.okWide Try.prog W .any base 35 v1) :
    Calls Try.prog 6 #[v0, v1] W fun e w' => e = .returned (.bool true) ∧ Below W.heap.size W w' := by
  obtain ⟨a, b, c, ha, hb, hc, rfl⟩ := in_three h0 o0
  obtain ⟨f, ch, rfl, hs, hfc, hf, _⟩ := in_bytes32 h1 o1
  exact order_walk f hf ch hs hfc a b c W ha hb hc
end Go.Proofs.Ythmaijmjhfngpaa
