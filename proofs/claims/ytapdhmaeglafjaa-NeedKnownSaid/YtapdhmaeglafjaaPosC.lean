/- The program's functions on positions, continued: roots, remapped positions, one below another. -/
import Derived.Test.YtapdhmaeglafjaaPosB
namespace Go.Proofs.Ytapdhmaeglafjaa
open Go.RowKit

set_option maxHeartbeats 400000 in
theorem root_yes (n h : Nat) (w : World) (hn : (n : Int) ≤ 9223372036854775807) (hb : n / 2 ^ h % 2 = 1) :
    Calls Try.prog 14 #[.int .u64 n, .int .i64 h] w (QRet (.tuple #[.int .u64 (rootOf n h : Nat), .bool true]) w) := by
  obtain ⟨h1, h2⟩ := bit_row (by omega) hb
  have hr := rows_le (n := n) (by omega)
  have ht : (bits .and .u64 ((n : Int) / 2 ^ h) 1 == 0) = false := by rw [shr_one_bits (by omega), hb]; rfl
  have HB := Lib.hid (root_wrap hn hb)
  clear hb
  go_enter Try.func14, Try.ntmps14
  go_wp2_with fail
  refine (rows_yes _ _ hn).mono ?_
  rintro e w' ⟨rfl, rfl⟩
  go_wp2_with fail
  go_quiet ((go_at_call 40; exact Calls.quiet_of (begin_any _ _ _ h1 hr)))
  go_wp2_with fail
  go_ret2
  exact QRet.mk (by rw [← HB.out]; rfl)

set_option maxHeartbeats 400000 in
theorem root_no (n : Nat) (h : Int) (w : World) (_hp : (n : Int) ≤ 18446744073709551615) (hb : ¬ HasTree n h) :
    Calls Try.prog 14 #[.int .u64 n, .int .i64 h] w (QRet (.tuple #[.int .u64 0, .bool false]) w) := by
  by_cases hn : (n : Int) ≤ 9223372036854775807
  · by_cases h0 : 0 ≤ h
    · obtain ⟨h, rfl⟩ := Int.eq_ofNat_of_zero_le h0
      have hr := rows_le (n := n) (by omega)
      by_cases h1 : h ≤ rowsOf n
      · have ht : (bits .and .u64 ((n : Int) / 2 ^ h) 1 == 0) = true := by
          rw [shr_one_bits (by omega)]
          have : n / 2 ^ h % 2 = 0 := by
            unfold HasTree at hb
            rw [Int.toNat_natCast] at hb
            have : ¬ n / 2 ^ h % 2 = 1 := fun e => hb ⟨by omega, h0, e⟩
            omega
          rw [this]; rfl
        clear hb
        go_enter Try.func14, Try.ntmps14
        go_wp2_with fail
        refine (rows_yes _ _ hn).mono ?_
        rintro e w' ⟨rfl, rfl⟩
        go_wp2_with fail
        go_ret2
        exact QRet.mk0 rfl
      · have h2 : rowsOf n < h := by omega
        clear hb h1
        go_enter Try.func14, Try.ntmps14
        go_wp2_with fail
        refine (rows_yes _ _ hn).mono ?_
        rintro e w' ⟨rfl, rfl⟩
        go_wp2_with fail
        go_ret2
        exact QRet.mk0 rfl
    · have h2 : h < 0 := by omega
      clear hb h0
      go_enter Try.func14, Try.ntmps14
      go_wp2_with fail
      refine (rows_yes _ _ hn).mono ?_
      rintro e w' ⟨rfl, rfl⟩
      go_wp2_with fail
      go_ret2
      exact QRet.mk0 rfl
  · clear hb
    go_enter Try.func14, Try.ntmps14
    go_wp2_with fail
    refine (rows_no _ _ (by omega)).mono ?_
    rintro e w' ⟨rfl, rfl⟩
    go_wp2_with fail
    go_ret2
    exact QRet.mk0 rfl

set_option maxHeartbeats 400000 in
theorem within_ok (a b R : Nat) (w : World) (hR : R ≤ 63) (ha : a + 1 < 2 ^ (R + 1)) (hb : b + 1 < 2 ^ (R + 1)) :
    Calls Try.prog 22 #[.int .u64 a, .int .u64 b, .int .i64 R] w (QRet (.bool (decide (Below_ a b R))) w) := by
  have h3 := (rowOf_spec ha).1
  have h4 := (rowOf_spec hb).1
  by_cases hlt : rowOf a R < rowOf b R
  · have HA := Lib.hid (off_wrap hR ha)
    have HB := Lib.hid (off_wrap hR hb)
    go_enter Try.func22, Try.ntmps22
    go_wp2_with fail
    refine (row_yes _ _ _ hR ha).mono ?_
    rintro e w' ⟨rfl, rfl⟩
    go_wp2_with fail
    refine (row_yes _ _ _ hR hb).mono ?_
    rintro e w' ⟨rfl, rfl⟩
    go_wp2_with fail
    go_quiet ((go_at_call 40; exact Calls.quiet_of (begin_any _ _ _ (by omega) hR)))
    go_wp2_with fail
    go_ret
    refine QRet.mk ?_
    show Value.bool (IntKind.u64.wrap (a - (beg (rowOf a R) R : Nat)) / 2 ^ (rowOf b R - rowOf a R) == IntKind.u64.wrap (b - (beg (rowOf b R) R : Nat))) = _
    rw [HA.out, HB.out, shr_nat]
    have e : decide (Below_ a b R) = decide (offOf a R / 2 ^ (rowOf b R - rowOf a R) = offOf b R) := by unfold Below_; simp [hlt]
    rw [e]
    generalize offOf a R / 2 ^ (rowOf b R - rowOf a R) = x
    generalize offOf b R = y
    congr 1
    by_cases hxy : x = y
    · subst hxy; simp
    · have : ¬ (x : Int) = y := by omega
      simp [hxy, this]
  · have hf : decide (Below_ a b R) = false := by unfold Below_; simp [hlt]
    rw [hf]
    go_enter Try.func22, Try.ntmps22
    go_wp2_with fail
    refine (row_yes _ _ _ hR ha).mono ?_
    rintro e w' ⟨rfl, rfl⟩
    go_wp2_with fail
    refine (row_yes _ _ _ hR hb).mono ?_
    rintro e w' ⟨rfl, rfl⟩
    go_wp2_with fail
    go_ret
    exact QRet.mk0 rfl

set_option maxHeartbeats 400000 in
theorem within_no (a b : Nat) (R : Int) (w : World) (_ha : (a : Int) ≤ 18446744073709551615) (_hb : (b : Int) ≤ 18446744073709551615) (h : ¬ (PosOk a R ∧ PosOk b R)) :
    Calls Try.prog 22 #[.int .u64 a, .int .u64 b, .int .i64 R] w (QRet (.bool false) w) := by
  by_cases ho : PosOk a R
  · have hb : ¬ PosOk b R := fun hb => h ⟨ho, hb⟩
    obtain ⟨R, rfl, hR, ha⟩ := ho.nat
    clear h ho
    go_enter Try.func22, Try.ntmps22
    go_wp2_with fail
    refine (row_yes _ _ _ hR ha).mono ?_
    rintro e w' ⟨rfl, rfl⟩
    go_wp2_with fail
    refine (row_no _ _ _ _hb hb).mono ?_
    rintro e w' ⟨rfl, rfl⟩
    go_wp2_with fail
    go_ret
    exact QRet.mk0 rfl
  · by_cases hb : PosOk b R
    · obtain ⟨R, rfl, hR, hb'⟩ := hb.nat
      clear h hb
      go_enter Try.func22, Try.ntmps22
      go_wp2_with fail
      refine (row_no _ _ _ _ha ho).mono ?_
      rintro e w' ⟨rfl, rfl⟩
      go_wp2_with fail
      refine (row_yes _ _ _ hR hb').mono ?_
      rintro e w' ⟨rfl, rfl⟩
      go_wp2_with fail
      go_ret
      exact QRet.mk0 rfl
    · clear h
      go_enter Try.func22, Try.ntmps22
      go_wp2_with fail
      refine (row_no _ _ _ _ha ho).mono ?_
      rintro e w' ⟨rfl, rfl⟩
      go_wp2_with fail
      refine (row_no _ _ _ _hb hb).mono ?_
      rintro e w' ⟨rfl, rfl⟩
      go_wp2_with fail
      go_ret
      exact QRet.mk0 rfl
end Go.Proofs.Ytapdhmaeglafjaa
