/- The reference's functions on positions, continued. -/
import Derived.Test.YtnokhajjcjfbpaaPosR
namespace Go.Proofs.Ytnokhajjcjfbpaa
open Go.RowKit

set_option maxHeartbeats 400000 in
theorem place_no (p : Nat) (R : Int) (w : World) (_hp : (p : Int) ≤ 18446744073709551615) (h : ¬ PosOk p R) :
    Calls Try.prog 44 #[.int .u64 p, .int .i64 R] w fun e w' => e = .returned (.tuple #[.int .i64 0, .int .u64 0, .bool false]) ∧ w = w' := by
  by_cases h1 : R < 0
  · clear h
    go_enter Try.func44, Try.ntmps44
    go_wp2_with fail
    go_ret3
    exact ⟨rfl, rfl⟩
  by_cases h2 : 63 < R
  · clear h
    go_enter Try.func44, Try.ntmps44
    go_wp2_with fail
    go_ret3
    exact ⟨rfl, rfl⟩
  obtain ⟨R, rfl⟩ := Int.eq_ofNat_of_zero_le (show 0 ≤ R by omega)
  have hR : R ≤ 63 := by omega
  have hge : 2 ^ (R + 1) ≤ p + 1 := by
    unfold PosOk at h
    rw [Int.toNat_natCast] at h
    omega
  clear h1 h2 h
  have d1 : decide ((R : Int) < 0) = false := by simp
  have d2 : decide ((63 : Int) < R) = false := by simp; omega
  go_enter Try.func44, Try.ntmps44
  go_wp2_with fail
  go_loop [0, 4, 5, 6, 7] (fun x _ _ _ i => ∃ k q : Nat, k ≤ R + 1 ∧ i = .int .i64 k ∧ x = .int .u64 (q : Nat) ∧ beg k R + q = p) (fun _ _ _ _ i => R + 1 - (intOf i).toNat)
  case atStart => exact ⟨0, p, by omega, rfl, rfl, by rw [beg_zero]; omega⟩
  case round =>
    obtain ⟨k, q, hk, rfl, rfl, hq⟩ := hrel
    have hqp : (q : Int) ≤ p := by omega
    have Q := Lib.hid hq
    clear hq
    by_cases hlt : k ≤ R
    · have hnx := Lib.hid (beg_next (r := k) (R := R) hlt)
      have e1 := Lib.hid (show (R : Int) - (k : Int) = ((R - k : Nat) : Int) from by omega)
      have hl : pw (R - k) ≤ q := by
        have t1 := beg_all R
        have t2 := Q.out
        have t3 := beg_mono (a := k + 1) (b := R + 1) (R := R) (by omega)
        have t4 := hnx.out
        omega
      go_wp2_with fail
      rw [e1.out]
      refine (power_any _ _ (by omega)).mono ?_
      rintro e w' ⟨rfl, rfl⟩
      go_wp2_with fail
      rw [e1.out]
      refine (power_any _ _ (by omega)).mono ?_
      rintro e w' ⟨rfl, rfl⟩
      go_wp2_with fail
      go_round
      case rel => exact ⟨k + 1, q - pw (R - k), by omega, by go_num, by go_num, by have := Q.out; have := hnx.out; omega⟩
      case measure => simp [intOf]; omega
    · obtain rfl : k = R + 1 := by omega
      go_wp2_with fail
      go_ret3
      exact ⟨rfl, rfl⟩

set_option maxHeartbeats 400000 in
theorem refRow_yes (p R : Nat) (w : World) (hR : R ≤ 63) (h : p + 1 < 2 ^ (R + 1)) :
    Calls Try.prog 81 #[.int .u64 p, .int .i64 R] w fun e w' => e = .returned (.tuple #[.int .i64 (rowOf p R : Nat), .bool true]) ∧ w = w' := by
  go_enter Try.func81, Try.ntmps81
  go_wp2_with fail
  refine (place_yes _ _ _ hR h).mono ?_
  rintro e w' ⟨rfl, rfl⟩
  go_wp2_with fail
  go_ret2
  exact ⟨rfl, rfl⟩
set_option maxHeartbeats 400000 in
theorem refRow_no (p : Nat) (R : Int) (w : World) (hp : (p : Int) ≤ 18446744073709551615) (h : ¬ PosOk p R) :
    Calls Try.prog 81 #[.int .u64 p, .int .i64 R] w fun e w' => e = .returned (.tuple #[.int .i64 0, .bool false]) ∧ w = w' := by
  go_enter Try.func81, Try.ntmps81
  go_wp2_with fail
  refine (place_no _ _ _ hp h).mono ?_
  rintro e w' ⟨rfl, rfl⟩
  go_wp2_with fail
  go_ret2
  exact ⟨rfl, rfl⟩

set_option maxHeartbeats 400000 in
theorem refParent_yes (p R : Nat) (w : World) (hR : R ≤ 63) (h : p + 2 < 2 ^ (R + 1)) :
    Calls Try.prog 58 #[.int .u64 p, .int .i64 R] w (QRet (.tuple #[.int .u64 (parOf p R : Nat), .bool true]) w) := by
  have hr := rowOf_top h
  have ho := half_lt hr (offOf_lt (p := p) (R := R) (by omega))
  have hw : ((offOf p R : Nat) : Int) ≤ 9223372036854775808 := by
    have := offOf_lt (p := p) (R := R) (by omega)
    have := pw_63 (R := R - rowOf p R) (by omega)
    omega
  have E := Lib.hid (par_eq h)
  have e1 := Lib.hid (show ((rowOf p R : Nat) : Int) + 1 = ((rowOf p R + 1 : Nat) : Int) from by omega)
  have e2 := Lib.hid (show ((offOf p R : Nat) : Int) / 2 = ((offOf p R / 2 : Nat) : Int) from by omega)
  go_enter Try.func58, Try.ntmps58
  go_wp2_with fail
  refine (place_yes _ _ _ hR (by omega)).mono ?_
  rintro e w' ⟨rfl, rfl⟩
  go_wp2_with fail
  rw [e1.out, e2.out]
  refine (at_yes _ _ _ _ (by omega) hR ho).mono ?_
  rintro e w' ⟨rfl, n1, rfl⟩
  go_wp2_with fail
  go_ret2
  exact QRet.mk (by rw [E.out]; rfl)

set_option maxHeartbeats 400000 in
theorem refParent_no (p : Nat) (R : Int) (w : World) (hp : (p : Int) ≤ 18446744073709551615) (h : ¬ (PosOk p R ∧ p + 2 < 2 ^ (R.toNat + 1))) :
    Calls Try.prog 58 #[.int .u64 p, .int .i64 R] w (QRet (.tuple #[.int .u64 0, .bool false]) w) := by
  by_cases ho : PosOk p R
  · obtain ⟨R, rfl, hR, hp⟩ := ho.nat
    have hl := rowOf_last (p := p) (R := R) (by rw [Int.toNat_natCast] at h; have h2 : ¬ _ := fun h2 => h ⟨ho, h2⟩; omega)
    have HL := Lib.hid hl
    have e2 := Lib.hid (show ((offOf p R : Nat) : Int) / 2 = ((offOf p R / 2 : Nat) : Int) from by omega)
    clear hl h ho
    go_enter Try.func58, Try.ntmps58
    go_wp2_with fail
    refine (place_yes _ _ _ hR hp).mono ?_
    rintro e w' ⟨rfl, rfl⟩
    rw [HL.out]
    go_wp2_with fail
    rw [e2.out]
    refine (at_no _ _ _ _ (by omega)).mono ?_
    rintro e w' ⟨rfl, n1, rfl⟩
    go_wp2_with fail
    go_ret2
    exact QRet.mk rfl
  · clear h
    go_enter Try.func58, Try.ntmps58
    go_wp2_with fail
    refine (place_no _ _ _ hp ho).mono ?_
    rintro e w' ⟨rfl, rfl⟩
    go_wp2_with fail
    go_ret2
    exact QRet.mk0 rfl

set_option maxHeartbeats 400000 in
theorem refSib_yes (p R : Nat) (w : World) (hR : R ≤ 63) (h : p + 2 < 2 ^ (R + 1)) :
    Calls Try.prog 31 #[.int .u64 p, .int .i64 R] w (QRet (.tuple #[.int .u64 (sibOf p : Nat), .bool true]) w) := by
  obtain ⟨h1, h2, h3⟩ := sib_eq h
  have hr := rowOf_top h
  have hne : ((rowOf p R : Nat) == (R : Int)) = false := by simp; omega
  have hb := beg_lt (r := rowOf p R) (R := R) (by omega) h3
  have hq := p_u64 hR hb
  have E := Lib.hid h2
  clear h2
  by_cases hz : offOf p R % 2 = 0
  · rw [if_pos hz] at h3 hb hq
    have E' := E.out
    rw [if_pos hz] at E'
    have E2 := Lib.hid E'
    have ht : (((offOf p R : Nat) : Int) % 2 == 0) = true := by simp; omega
    have e2 := Lib.hid (show ((offOf p R : Nat) : Int) + 1 = ((offOf p R + 1 : Nat) : Int) from by omega)
    have H3 := Lib.hid h3
    have hw : ((offOf p R : Nat) : Int) ≤ 9223372036854775807000 := by omega
    clear h1 hb E E' hz h3
    go_enter Try.func31, Try.ntmps31
    go_wp2_with fail
    refine (place_yes _ _ _ hR (by omega)).mono ?_
    rintro e w' ⟨rfl, rfl⟩
    go_wp2_with fail
    rw [e2.out]
    refine (at_yes _ _ _ _ (by omega) hR H3.out).mono ?_
    rintro e w' ⟨rfl, n1, rfl⟩
    go_wp2_with fail
    go_ret2
    exact QRet.mk (by rw [E2.out]; rfl)
  · rw [if_neg hz] at h3 hb hq
    have E' := E.out
    rw [if_neg hz] at E'
    have E2 := Lib.hid E'
    have ht : (((offOf p R : Nat) : Int) % 2 == 0) = false := by simp; omega
    have e2 := Lib.hid (show ((offOf p R : Nat) : Int) - 1 = ((offOf p R - 1 : Nat) : Int) from by omega)
    have H3 := Lib.hid h3
    have h1' : (1 : Int) ≤ (offOf p R : Nat) := by omega
    have hq2 : ((offOf p R : Nat) : Int) ≤ 18446744073709551615 := by omega
    clear h1 hb E E' hz h3
    go_enter Try.func31, Try.ntmps31
    go_wp2_with fail
    refine (place_yes _ _ _ hR (by omega)).mono ?_
    rintro e w' ⟨rfl, rfl⟩
    go_wp2_with fail
    rw [e2.out]
    refine (at_yes _ _ _ _ (by omega) hR H3.out).mono ?_
    rintro e w' ⟨rfl, n1, rfl⟩
    go_wp2_with fail
    go_ret2
    exact QRet.mk (by rw [E2.out]; rfl)

set_option maxHeartbeats 400000 in
theorem refSib_no (p : Nat) (R : Int) (w : World) (hp : (p : Int) ≤ 18446744073709551615) (h : ¬ (PosOk p R ∧ p + 2 < 2 ^ (R.toNat + 1))) :
    Calls Try.prog 31 #[.int .u64 p, .int .i64 R] w (QRet (.tuple #[.int .u64 0, .bool false]) w) := by
  by_cases ho : PosOk p R
  · obtain ⟨R, rfl, hR, hp⟩ := ho.nat
    have hl := rowOf_last (p := p) (R := R) (by rw [Int.toNat_natCast] at h; have h2 : ¬ _ := fun h2 => h ⟨ho, h2⟩; omega)
    have ht : ((rowOf p R : Nat) == (R : Int)) = true := by rw [hl]; simp
    clear hl h ho
    go_enter Try.func31, Try.ntmps31
    go_wp2_with fail
    refine (place_yes _ _ _ hR hp).mono ?_
    rintro e w' ⟨rfl, rfl⟩
    go_wp2_with fail
    go_ret2
    exact QRet.mk0 rfl
  · clear h
    go_enter Try.func31, Try.ntmps31
    go_wp2_with fail
    refine (place_no _ _ _ hp ho).mono ?_
    rintro e w' ⟨rfl, rfl⟩
    go_wp2_with fail
    go_ret2
    exact QRet.mk0 rfl

end Go.Proofs.Ytnokhajjcjfbpaa
