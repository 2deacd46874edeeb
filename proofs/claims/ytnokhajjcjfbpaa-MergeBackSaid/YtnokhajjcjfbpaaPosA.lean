/- The program's functions on positions: what each call returns. -/
import Derived.Test.YtnokhajjcjfbpaaRows
import Derived.Test.YtnokhajjcjfbpaaPosPl
import Derived.Test.YtnokhajjcjfbpaaShelf
import Derived.WalkKit
import Derived.WalkSpells
import Derived.WalkLawsBesides
import Derived.Deep.QuietTactic
import Derived.BigQuiet
import Derived.Lib.Hide
namespace Go.Proofs.Ytnokhajjcjfbpaa
open Go.RowKit

/-- It returns v; nothing but draws. -/
def QRet (v : Value) (w : World) (e : Ending) (w' : World) : Prop := e = .returned v ∧ ∃ n, w' = w.drewN n
theorem QRet.mk {v v' : Value} {w : World} {n : Nat} (h : v' = v) : QRet v w (.returned v') (w.drewN n) := ⟨by rw [h], n, rfl⟩
theorem QRet.mk0 {v v' : Value} {w : World} (h : v' = v) : QRet v w (.returned v') w := ⟨by rw [h], 0, rfl⟩

set_option maxHeartbeats 400000 in
theorem may_any (r : Int) (w : World) :
    Calls Try.prog 62 #[.int .i64 r] w fun e w' => e = .returned (.bool (decide (0 ≤ r) && decide (r ≤ 63))) ∧ w = w' := by
  go_enter Try.func62, Try.ntmps62
  go_wp2
  all_goals go_ret
  · have h : (0 : Int) ≤ r := by assumption
    exact ⟨by simp [h], rfl⟩
  · have h : r < 0 := by assumption
    exact ⟨by simp [show ¬ (0 : Int) ≤ r by omega], rfl⟩
theorem may_yes (r : Int) (w : World) (h : 0 ≤ r ∧ r ≤ 63) :
    Calls Try.prog 62 #[.int .i64 r] w fun e w' => e = .returned (.bool true) ∧ w = w' := by
  have := may_any r w
  rwa [show (decide (0 ≤ r) && decide (r ≤ 63)) = true from by simp; omega] at this
theorem may_no (r : Int) (w : World) (h : ¬ (0 ≤ r ∧ r ≤ 63)) :
    Calls Try.prog 62 #[.int .i64 r] w fun e w' => e = .returned (.bool false) ∧ w = w' := by
  have := may_any r w
  rwa [show (decide (0 ≤ r) && decide (r ≤ 63)) = false from by simp; omega] at this

set_option maxHeartbeats 400000 in
theorem begin_any (r R : Nat) (w : World) (h : r ≤ R) (hR : R ≤ 63) :
    Calls Try.prog 51 #[.int .i64 r, .int .i64 R] w (QRet (.int .u64 (beg r R : Nat)) w) := by
  go_enter Try.func51, Try.ntmps51
  go_wp2
  go_quiet (fail)
  go_wp2
  go_ret
  exact QRet.mk (by rw [← beg_wrap h hR]; rfl)

/-- Is p one of the positions of R rows? -/
def PosOk (p : Nat) (R : Int) : Prop := 0 ≤ R ∧ R ≤ 63 ∧ p + 1 < 2 ^ (R.toNat + 1)
instance (p : Nat) (R : Int) : Decidable (PosOk p R) := by unfold PosOk; infer_instance

theorem PosOk.nat {p : Nat} {R : Int} (h : PosOk p R) : ∃ R' : Nat, R = R' ∧ R' ≤ 63 ∧ p + 1 < 2 ^ (R' + 1) := by
  obtain ⟨h0, h1, h2⟩ := h
  exact ⟨R.toNat, by omega, by omega, h2⟩

theorem PosOk.of_nat {p R : Nat} (hR : R ≤ 63) (h : p + 1 < 2 ^ (R + 1)) : PosOk p R := ⟨by omega, by omega, by rw [Int.toNat_natCast]; exact h⟩

set_option maxHeartbeats 400000 in
theorem row_yes (p R : Nat) (w : World) (hR : R ≤ 63) (h : p + 1 < 2 ^ (R + 1)) :
    Calls Try.prog 49 #[.int .u64 p, .int .i64 R] w fun e w' => e = .returned (.tuple #[.int .i64 (rowOf p R : Nat), .bool true]) ∧ w = w' := by
  have hb := Lib.hid (row_bits hR h)
  have ha := all_pos hR
  have h64 := pw_63 hR
  have hp1 := pw_succ R
  have hlt : (p : Int) < IntKind.u64.wrap (IntKind.u64.wrap (2 * 2 ^ R) - 1) := by rw [ha]; omega
  have hx : (0 : Int) ≤ bits BinOp.xor IntKind.u64 IntKind.u64.max (IntKind.u64.wrap ((p : Int) * 2 ^ (63 - R))) ∧ bits BinOp.xor IntKind.u64 IntKind.u64.max (IntKind.u64.wrap ((p : Int) * 2 ^ (63 - R))) ≤ 18446744073709551615 := by
    have : (0 : Int) ≤ IntKind.u64.wrap ((p : Int) * 2 ^ (63 - R)) ∧ IntKind.u64.wrap ((p : Int) * 2 ^ (63 - R)) ≤ 18446744073709551615 := by
      simp only [IntKind.wrap, IntKind.bits, IntKind.signed]; simp; omega
    obtain ⟨x, hx⟩ := Int.eq_ofNat_of_zero_le this.1
    rw [hx] at this ⊢
    rw [ones_xor x (by omega)]
    omega
  have HX := Lib.hid hx
  clear hx ha h64 hp1
  go_enter Try.func49, Try.ntmps49
  go_wp2_with fail
  refine (may_yes _ _ (by omega)).mono ?_
  rintro e w' ⟨rfl, rfl⟩
  go_wp2_with fail
  refine (Try.bits_LeadingZeros64 _ _ HX.out.1 HX.out.2).mono ?_
  rintro e w' ⟨rfl, rfl⟩
  rw [hb.out]
  go_wp2_with fail
  go_ret2
  exact ⟨rfl, rfl⟩

set_option maxHeartbeats 400000 in
theorem row_no (p : Nat) (R : Int) (w : World) (_hp : (p : Int) ≤ 18446744073709551615) (h : ¬ PosOk p R) :
    Calls Try.prog 49 #[.int .u64 p, .int .i64 R] w fun e w' => e = .returned (.tuple #[.int .i64 0, .bool false]) ∧ w = w' := by
  by_cases hR : 0 ≤ R ∧ R ≤ 63
  · obtain ⟨R, rfl⟩ := Int.eq_ofNat_of_zero_le hR.1
    have hR2 : R ≤ 63 := by omega
    have ha := all_pos hR2
    have hge : IntKind.u64.wrap (IntKind.u64.wrap (2 * 2 ^ R) - 1) ≤ (p : Int) := by
      rw [ha]
      unfold PosOk at h
      have := pw_pos (R + 1)
      rw [Int.toNat_natCast] at h
      omega
    clear ha h
    go_enter Try.func49, Try.ntmps49
    go_wp2_with fail
    refine (may_yes _ _ (by omega)).mono ?_
    rintro e w' ⟨rfl, rfl⟩
    go_wp2_with fail
    go_ret2
    exact ⟨rfl, rfl⟩
  · go_enter Try.func49, Try.ntmps49
    go_wp2_with fail
    refine (may_no _ _ (by omega)).mono ?_
    rintro e w' ⟨rfl, rfl⟩
    go_wp2_with fail
    go_ret2
    exact ⟨rfl, rfl⟩

end Go.Proofs.Ytnokhajjcjfbpaa
