/- The program's functions on positions, continued: roots, remapped positions, one below another. -/
import Derived.Test.YtnokhajjcjfbpaaPosB
namespace Go.Proofs.Ytnokhajjcjfbpaa
open Go.RowKit

set_option maxHeartbeats 400000 in
theorem root_yes (n h : Nat) (w : World) (hn : (n : Int) ≤ 9223372036854775807) (hb : n / 2 ^ h % 2 = 1) :
    Calls Try.prog 38 #[.int .u64 n, .int .i64 h] w (QRet (.tuple #[.int .u64 (rootOf n h : Nat), .bool true]) w) := by
  obtain ⟨h1, h2⟩ := bit_row (by omega) hb
  have hr := rows_le (n := n) (by omega)
  have ht : (bits .and .u64 ((n : Int) / 2 ^ h) 1 == 0) = false := by rw [shr_one_bits (by omega), hb]; rfl
  have HB := Lib.hid (root_wrap hn hb)
  clear hb
  go_enter Try.func38, Try.ntmps38
  go_wp2_with fail
  refine (rows_yes _ _ hn).mono ?_
  rintro e w' ⟨rfl, rfl⟩
  go_wp2_with fail
  go_quiet ((go_at_call 51; exact Calls.quiet_of (begin_any _ _ _ h1 hr)))
  go_wp2_with fail
  go_ret2
  exact QRet.mk (by rw [← HB.out]; rfl)

set_option maxHeartbeats 400000 in
theorem root_no (n : Nat) (h : Int) (w : World) (_hp : (n : Int) ≤ 18446744073709551615) (hb : ¬ HasTree n h) :
    Calls Try.prog 38 #[.int .u64 n, .int .i64 h] w (QRet (.tuple #[.int .u64 0, .bool false]) w) := by
  by_cases hn : (n : Int) ≤ 9223372036854775807
  · by_cases h0 : 0 ≤ h
    · obtain ⟨h, rfl⟩ := Int.eq_ofNat_of_zero_le h0
      have hr := rows_le (n := n) (by omega)
      by_cases h1 : h ≤ rowsOf n
      · have ht : (bits .and .u64 ((n : Int) / 2 ^ h) 1 == 0) = true := by
          rw [shr_one_bits (by omega)]
          have : n / 2 ^ h % 2 = 0 := by
            unfold HasTree at hb
            rw [Int.toNat_natCast] at hb
            have : ¬ n / 2 ^ h % 2 = 1 := fun e => hb ⟨by omega, h0, e⟩
            omega
          rw [this]; rfl
        clear hb
        go_enter Try.func38, Try.ntmps38
        go_wp2_with fail
        refine (rows_yes _ _ hn).mono ?_
        rintro e w' ⟨rfl, rfl⟩
        go_wp2_with fail
        go_ret2
        exact QRet.mk0 rfl
      · have h2 : rowsOf n < h := by omega
        clear hb h1
        go_enter Try.func38, Try.ntmps38
        go_wp2_with fail
        refine (rows_yes _ _ hn).mono ?_
        rintro e w' ⟨rfl, rfl⟩
        go_wp2_with fail
        go_ret2
        exact QRet.mk0 rfl
    · have h2 : h < 0 := by omega
      clear hb h0
      go_enter Try.func38, Try.ntmps38
      go_wp2_with fail
      refine (rows_yes _ _ hn).mono ?_
      rintro e w' ⟨rfl, rfl⟩
      go_wp2_with fail
      go_ret2
      exact QRet.mk0 rfl
  · clear hb
    go_enter Try.func38, Try.ntmps38
    go_wp2_with fail
    refine (rows_no _ _ (by omega)).mono ?_
    rintro e w' ⟨rfl, rfl⟩
    go_wp2_with fail
    go_ret2
    exact QRet.mk0 rfl

end Go.Proofs.Ytnokhajjcjfbpaa
