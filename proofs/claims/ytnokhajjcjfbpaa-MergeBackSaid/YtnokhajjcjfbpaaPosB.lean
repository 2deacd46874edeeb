/- The program's functions on positions, continued: parents, children, siblings, rows, roots. -/
import Derived.Test.YtnokhajjcjfbpaaPosA
namespace Go.Proofs.Ytnokhajjcjfbpaa
open Go.RowKit

set_option maxHeartbeats 400000 in
theorem parent_yes (p R : Nat) (w : World) (hR : R ≤ 63) (h : p + 2 < 2 ^ (R + 1)) :
    Calls Try.prog 39 #[.int .u64 p, .int .i64 R] w fun e w' => e = .returned (.tuple #[.int .u64 (parOf p R : Nat), .bool true]) ∧ w = w' := by
  have hne : ((rowOf p R : Nat) == (R : Int)) = false := by have := rowOf_top h; simp; omega
  have hb := Lib.hid (par_bits hR h)
  go_enter Try.func39, Try.ntmps39
  go_wp2_with fail
  refine (row_yes _ _ _ hR (by omega)).mono ?_
  rintro e w' ⟨rfl, rfl⟩
  go_wp2_with fail
  go_ret2
  exact ⟨by rw [← hb.out]; rfl, rfl⟩

set_option maxHeartbeats 400000 in
theorem parent_no (p : Nat) (R : Int) (w : World) (_hp : (p : Int) ≤ 18446744073709551615) (h : ¬ (PosOk p R ∧ p + 2 < 2 ^ (R.toNat + 1))) :
    Calls Try.prog 39 #[.int .u64 p, .int .i64 R] w fun e w' => e = .returned (.tuple #[.int .u64 0, .bool false]) ∧ w = w' := by
  by_cases ho : PosOk p R
  · obtain ⟨R, rfl, hR, hp⟩ := ho.nat
    have hl := rowOf_last (p := p) (R := R) (by rw [Int.toNat_natCast] at h; have h2 : ¬ _ := fun h2 => h ⟨ho, h2⟩; omega)
    have hq : ((rowOf p R : Nat) == (R : Int)) = true := by rw [hl]; simp
    clear hl h ho
    go_enter Try.func39, Try.ntmps39
    go_wp2_with fail
    refine (row_yes _ _ _ hR hp).mono ?_
    rintro e w' ⟨rfl, rfl⟩
    go_wp2_with fail
    go_ret2
    exact ⟨rfl, rfl⟩
  · go_enter Try.func39, Try.ntmps39
    go_wp2_with fail
    refine (row_no _ _ _ _hp ho).mono ?_
    rintro e w' ⟨rfl, rfl⟩
    go_wp2_with fail
    go_ret2
    exact ⟨rfl, rfl⟩

set_option maxHeartbeats 400000 in
theorem sib_yes (p R : Nat) (w : World) (hR : R ≤ 63) (h : p + 2 < 2 ^ (R + 1)) :
    Calls Try.prog 26 #[.int .u64 p, .int .i64 R] w fun e w' => e = .returned (.tuple #[.int .u64 (sibOf p : Nat), .bool true]) ∧ w = w' := by
  have hb := Lib.hid (sib_bits (p := p) (by have := pw_63 hR; have := pw_succ R; omega))
  go_enter Try.func26, Try.ntmps26
  go_wp2_with fail
  refine (parent_yes _ _ _ hR (by omega)).mono ?_
  rintro e w' ⟨rfl, rfl⟩
  go_wp2_with fail
  go_ret2
  exact ⟨by rw [← hb.out]; rfl, rfl⟩

set_option maxHeartbeats 400000 in
theorem sib_no (p : Nat) (R : Int) (w : World) (_hp : (p : Int) ≤ 18446744073709551615) (h : ¬ (PosOk p R ∧ p + 2 < 2 ^ (R.toNat + 1))) :
    Calls Try.prog 26 #[.int .u64 p, .int .i64 R] w fun e w' => e = .returned (.tuple #[.int .u64 0, .bool false]) ∧ w = w' := by
  go_enter Try.func26, Try.ntmps26
  go_wp2_with fail
  refine (parent_no _ _ _ _hp h).mono ?_
  rintro e w' ⟨rfl, rfl⟩
  go_wp2_with fail
  go_ret2
  exact ⟨rfl, rfl⟩

set_option maxHeartbeats 400000 in
theorem rows_yes (n : Nat) (w : World) (h : (n : Int) ≤ 9223372036854775807) :
    Calls Try.prog 35 #[.int .u64 n] w fun e w' => e = .returned (.tuple #[.int .i64 (rowsOf n : Nat), .bool true]) ∧ w = w' := by
  by_cases h0 : n = 0
  · subst h0
    have e0 : rowsOf 0 = 0 := by decide
    rw [e0]
    go_enter Try.func35, Try.ntmps35
    go_wp2_with fail
    go_ret2
    exact ⟨rfl, rfl⟩
  · have hz : ((n : Int) == 0) = false := by simp; omega
    have e1 : (n : Int) - 1 = ((n - 1 : Nat) : Int) := by omega
    have E1 := Lib.hid e1
    have h1 : (1 : Int) ≤ n := by omega
    clear e1
    go_enter Try.func35, Try.ntmps35
    go_wp2_with fail
    refine (Try.bits_Len64 _ _ (by omega) (by omega)).mono ?_
    rintro e w' ⟨rfl, rfl⟩
    rw [E1.out, Int.toNat_natCast]
    go_wp2_with fail
    go_ret2
    exact ⟨rfl, rfl⟩

set_option maxHeartbeats 400000 in
theorem rows_no (n : Nat) (w : World) (h : ¬ (n : Int) ≤ 9223372036854775807) :
    Calls Try.prog 35 #[.int .u64 n] w fun e w' => e = .returned (.tuple #[.int .i64 0, .bool false]) ∧ w = w' := by
  have h' : (9223372036854775807 : Int) < n := by omega
  clear h
  go_enter Try.func35, Try.ntmps35
  go_wp2_with fail
  go_ret2
  exact ⟨rfl, rfl⟩
end Go.Proofs.Ytnokhajjcjfbpaa
