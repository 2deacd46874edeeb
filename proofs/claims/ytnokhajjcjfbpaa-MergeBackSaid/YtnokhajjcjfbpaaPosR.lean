/- The reference's functions on positions: what each call returns. -/
import Derived.Test.YtnokhajjcjfbpaaPosA
namespace Go.Proofs.Ytnokhajjcjfbpaa
open Go.RowKit

set_option maxHeartbeats 400000 in
theorem power_any (n : Nat) (w : World) (hn : n ≤ 63) :
    Calls Try.prog 59 #[.int .i64 n] w fun e w' => e = .returned (.int .u64 (pw n : Nat)) ∧ w = w' := by
  go_enter Try.func59, Try.ntmps59
  go_wp2
  go_loop [3, 4] (fun x i => ∃ k : Nat, k ≤ n ∧ i = .int .i64 k ∧ x = .int .u64 (pw k : Nat)) (fun _ i => n - (intOf i).toNat)
  case atStart => exact ⟨0, by omega, rfl, rfl⟩
  case round =>
    obtain ⟨k, hk, rfl, rfl⟩ := hrel
    by_cases hlt : k < n
    · have hb := pw_half hlt hn
      go_wp2
      go_round
      case rel => exact ⟨k + 1, by omega, by go_num, by rw [pw_next]; go_num⟩
      case measure => simp [intOf]; omega
    · obtain rfl : k = n := by omega
      go_wp2
      go_ret
      exact ⟨rfl, rfl⟩

set_option maxHeartbeats 400000 in
theorem refBegin_yes (r R : Nat) (w : World) (h : r ≤ R) (hR : R ≤ 63) :
    Calls Try.prog 60 #[.int .i64 r, .int .i64 R] w (QRet (.tuple #[.int .u64 (beg r R : Nat), .bool true]) w) := by
  have d1 : decide ((R : Int) < 0) = false := by simp
  have d2 : decide ((63 : Int) < R) = false := by simp; omega
  have d3 : decide ((r : Int) < 0) = false := by simp
  have d4 : decide (R < r) = false := by simp; omega
  go_enter Try.func60, Try.ntmps60
  go_wp2_with fail
  go_loop [6, 7] (fun x i => ∃ k : Nat, k ≤ r ∧ i = .int .i64 k ∧ x = .int .u64 (beg k R : Nat)) (fun _ i => r - (intOf i).toNat)
  case atStart => exact ⟨0, by omega, rfl, by rw [beg_zero]; rfl⟩
  case round =>
    obtain ⟨k, hk, rfl, rfl⟩ := hrel
    by_cases hlt : k < r
    · have E := Lib.hid (beg_next (r := k) (R := R) (by omega))
      have hb : (beg k R : Int) + (pw (R - k) : Int) ≤ 18446744073709551615 := by have := beg_bd (r := k + 1) (R := R) (by omega) hR; have := E.out; omega
      have e1 := Lib.hid (show (R : Int) - (k : Int) = ((R - k : Nat) : Int) from by omega)
      go_wp2_with fail
      rw [e1.out]
      refine (power_any _ _ (by omega)).mono ?_
      rintro e w' ⟨rfl, rfl⟩
      go_wp2_with fail
      go_round
      case rel => exact ⟨k + 1, by omega, by go_num, by rw [E.out]; go_num⟩
      case measure => simp [intOf]; omega
    · obtain rfl : k = r := by omega
      go_wp2
      go_ret2
      exact QRet.mk0 rfl
set_option maxHeartbeats 400000 in
theorem refBegin_no (r R : Int) (w : World) (h : ¬ (0 ≤ R ∧ R ≤ 63 ∧ 0 ≤ r ∧ r ≤ R)) :
    Calls Try.prog 60 #[.int .i64 r, .int .i64 R] w fun e w' => e = .returned (.tuple #[.int .u64 0, .bool false]) ∧ w = w' := by
  by_cases h1 : R < 0
  · clear h
    go_enter Try.func60, Try.ntmps60
    go_wp2_with fail
    go_ret2
    exact ⟨rfl, rfl⟩
  · by_cases h2 : 63 < R
    · clear h
      go_enter Try.func60, Try.ntmps60
      go_wp2_with fail
      go_ret2
      exact ⟨rfl, rfl⟩
    · by_cases h3 : r < 0
      · clear h
        go_enter Try.func60, Try.ntmps60
        go_wp2_with fail
        go_ret2
        exact ⟨rfl, rfl⟩
      · have h4 : R < r := by omega
        clear h
        go_enter Try.func60, Try.ntmps60
        go_wp2_with fail
        go_ret2
        exact ⟨rfl, rfl⟩

set_option maxHeartbeats 400000 in
theorem at_yes (r o R : Nat) (w : World) (h : r ≤ R) (hR : R ≤ 63) (ho : o < pw (R - r)) :
    Calls Try.prog 45 #[.int .i64 r, .int .u64 o, .int .i64 R] w (QRet (.tuple #[.int .u64 (beg r R + o : Nat), .bool true]) w) := by
  have hlt := beg_lt h ho
  have hp := p_u64 hR hlt
  have e1 := Lib.hid (show (R : Int) - (r : Int) = ((R - r : Nat) : Int) from by omega)
  go_enter Try.func45, Try.ntmps45
  go_wp2_with fail
  refine (refBegin_yes _ _ _ h hR).mono ?_
  rintro e w' ⟨rfl, n1, rfl⟩
  go_wp2_with fail
  rw [e1.out]
  refine (power_any _ _ (by omega)).mono ?_
  rintro e w' ⟨rfl, rfl⟩
  go_wp2_with fail
  go_ret2
  exact QRet.mk rfl

set_option maxHeartbeats 400000 in
theorem at_off (r o R : Nat) (w : World) (h : r ≤ R) (hR : R ≤ 63) (ho : ¬ o < pw (R - r)) :
    Calls Try.prog 45 #[.int .i64 r, .int .u64 o, .int .i64 R] w (QRet (.tuple #[.int .u64 0, .bool false]) w) := by
  have e1 := Lib.hid (show (R : Int) - (r : Int) = ((R - r : Nat) : Int) from by omega)
  go_enter Try.func45, Try.ntmps45
  go_wp2_with fail
  refine (refBegin_yes _ _ _ h hR).mono ?_
  rintro e w' ⟨rfl, n1, rfl⟩
  go_wp2_with fail
  rw [e1.out]
  refine (power_any _ _ (by omega)).mono ?_
  rintro e w' ⟨rfl, rfl⟩
  go_wp2_with fail
  go_ret2
  exact QRet.mk rfl

set_option maxHeartbeats 400000 in
theorem at_no (r R : Int) (o : Nat) (w : World) (h : ¬ (0 ≤ R ∧ R ≤ 63 ∧ 0 ≤ r ∧ r ≤ R)) :
    Calls Try.prog 45 #[.int .i64 r, .int .u64 o, .int .i64 R] w (QRet (.tuple #[.int .u64 0, .bool false]) w) := by
  go_enter Try.func45, Try.ntmps45
  go_wp2_with fail
  refine (refBegin_no _ _ _ h).mono ?_
  rintro e w' ⟨rfl, rfl⟩
  go_wp2_with fail
  go_ret2
  exact QRet.mk0 rfl

set_option maxHeartbeats 400000 in
theorem has_any (n h : Nat) (w : World) (hh : h < 63) (hn : (n : Int) ≤ 18446744073709551615) :
    Calls Try.prog 69 #[.int .u64 n, .int .i64 h] w fun e w' => e = .returned (.bool (decide (n / 2 ^ h % 2 = 1))) ∧ w = w' := by
  have hb := pw_bd (n := h) (by omega)
  have q0 : (0 : Int) ≤ (n : Int) / (pw h : Int) := Int.ediv_nonneg (by omega) (by omega)
  have q1 : (n : Int) / (pw h : Int) ≤ 18446744073709551615 := by
    have := Int.ediv_le_self (a := (n : Int)) (pw h : Int) (by omega)
    omega
  go_enter Try.func69, Try.ntmps69
  go_wp2_with fail
  refine (power_any _ _ (by omega)).mono ?_
  rintro e w' ⟨rfl, rfl⟩
  go_wp2_with fail
  go_ret
  refine ⟨?_, rfl⟩
  show Ending.returned (Value.bool ((n : Int) / (pw h : Int) % 2 == 1)) = _
  rw [show (n : Int) / (pw h : Int) = ((n / 2 ^ h : Nat) : Int) from rfl]
  generalize n / 2 ^ h = x
  congr 2
  by_cases hx : x % 2 = 1
  · have : (x : Int) % 2 = 1 := by omega
    simp [hx, this]
  · have : ¬ (x : Int) % 2 = 1 := by omega
    simp only [hx, decide_false, beq_eq_false_iff_ne, ne_eq]
    exact this

set_option maxHeartbeats 400000 in
theorem has_no (n : Nat) (h : Int) (w : World) (hh : ¬ (0 ≤ h ∧ h < 63)) :
    Calls Try.prog 69 #[.int .u64 n, .int .i64 h] w fun e w' => e = .returned (.bool false) ∧ w = w' := by
  by_cases h0 : 0 ≤ h
  · have h1 : 63 ≤ h := by omega
    clear hh
    go_enter Try.func69, Try.ntmps69
    go_wp2_with fail
    go_ret
    exact ⟨rfl, rfl⟩
  · have h1 : h < 0 := by omega
    clear hh h0
    go_enter Try.func69, Try.ntmps69
    go_wp2_with fail
    go_ret
    exact ⟨rfl, rfl⟩

set_option maxHeartbeats 400000 in
theorem place_yes (p R : Nat) (w : World) (hR : R ≤ 63) (h : p + 1 < 2 ^ (R + 1)) :
    Calls Try.prog 44 #[.int .u64 p, .int .i64 R] w fun e w' => e = .returned (.tuple #[.int .i64 (rowOf p R : Nat), .int .u64 (offOf p R : Nat), .bool true]) ∧ w = w' := by
  have d1 : decide ((R : Int) < 0) = false := by simp
  have d2 : decide ((63 : Int) < R) = false := by simp; omega
  have hp := p_u64 hR h
  go_enter Try.func44, Try.ntmps44
  go_wp2_with fail
  go_loop [0, 4, 5, 6, 7] (fun x _ _ _ i => ∃ k q : Nat, k ≤ rowOf p R ∧ i = .int .i64 k ∧ x = .int .u64 (q : Nat) ∧ beg k R + q = p) (fun _ _ _ _ i => R + 1 - (intOf i).toNat)
  case atStart => exact ⟨0, p, by omega, rfl, rfl, by rw [beg_zero]; omega⟩
  case round =>
    obtain ⟨k, q, hk, rfl, rfl, hq⟩ := hrel
    have hqp : (q : Int) ≤ p := by omega
    have Q := Lib.hid hq
    clear hq
    obtain ⟨s1, s2, s3⟩ := rowOf_spec h
    clear s2 s3
    have e1 := Lib.hid (show (R : Int) - (k : Int) = ((R - k : Nat) : Int) from by omega)
    by_cases hlt : k = rowOf p R
    · have hl : q < pw (R - k) := by
        have := beg_off h
        have := offOf_lt h
        have := Q.out
        unfold pw
        rw [← hlt] at *
        omega
      have Hlt := Lib.hid hlt
      clear hlt
      go_wp2_with fail
      rw [e1.out]
      refine (power_any _ _ (by omega)).mono ?_
      rintro e w' ⟨rfl, rfl⟩
      go_wp2_with fail
      go_ret3
      have hqq : q = offOf p R := by
        have t1 := beg_off h
        have t2 := Q.out
        rw [← Hlt.out] at t1
        omega
      exact ⟨by rw [Hlt.out, hqq]; rfl, rfl⟩
    · have hnx := beg_next (r := k) (R := R) (by omega)
      have hl : pw (R - k) ≤ q := by
        have t1 := beg_off h
        have t2 := Q.out
        have t3 := beg_mono (a := k + 1) (b := rowOf p R) (R := R) (by omega)
        omega
      clear hnx
      have hnx := Lib.hid (beg_next (r := k) (R := R) (by omega))
      have hlt : k < rowOf p R := by omega
      go_wp2_with fail
      rw [e1.out]
      refine (power_any _ _ (by omega)).mono ?_
      rintro e w' ⟨rfl, rfl⟩
      go_wp2_with fail
      rw [e1.out]
      refine (power_any _ _ (by omega)).mono ?_
      rintro e w' ⟨rfl, rfl⟩
      go_wp2_with fail
      go_round
      case rel => exact ⟨k + 1, q - pw (R - k), by omega, by go_num, by go_num, by have := Q.out; have := hnx.out; omega⟩
      case measure => simp [intOf]; omega
end Go.Proofs.Ytnokhajjcjfbpaa
