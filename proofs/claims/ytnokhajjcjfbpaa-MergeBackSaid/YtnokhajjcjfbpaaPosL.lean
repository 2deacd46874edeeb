/- The laws on positions: what each comes to. -/
import Derived.Test.YtnokhajjcjfbpaaPosT
namespace Go.Proofs.Ytnokhajjcjfbpaa
open Go.RowKit

theorem grown_drewN (w : World) (n : Nat) : Grown w (w.drewN n) := ⟨(World.keptBut_refl _ _).alike (World.drewN_alike _ _), fun _ => rfl, Nat.le_refl _⟩
theorem QRet.grown {v : Value} {w : World} {e : Ending} {w' : World} (h : QRet v w e w') : e = .returned v ∧ Grown w w' := by
  obtain ⟨h1, n, rfl⟩ := h
  exact ⟨h1, grown_drewN _ _⟩
theorem u64_nat {a : Int} (h : (Lit.int .u64 a).wf = true) : ∃ n : Nat, a = n ∧ (n : Int) ≤ 18446744073709551615 := by
  have h2 : 0 ≤ a ∧ a ≤ 18446744073709551615 := by simpa [Lit.wf, IntKind.wrap, IntKind.bits, IntKind.signed, IntKind.min, IntKind.max] using h
  exact ⟨a.toNat, by omega, by omega⟩
theorem to_q {P : Program} {f : FuncId} {args : Array Value} {v : Value} {w : World} (h : Calls P f args w fun e w' => e = .returned v ∧ w = w') : Calls P f args w (QRet v w) :=
  h.mono fun _ _ ⟨h1, h2⟩ => ⟨h1, 0, h2.symm⟩

/-! ### Both of a pair return the same -/
def Both2 (f g : FuncId) (k : IntKind) (args : Array Value) : Prop := ∃ (r : Int) (b : Bool), (∀ w, Calls Try.prog f args w (QRet (.tuple #[.int k r, .bool b]) w)) ∧ (∀ w, Calls Try.prog g args w (QRet (.tuple #[.int k r, .bool b]) w))

theorem row_both (p : Nat) (R : Int) (hp : (p : Int) ≤ 18446744073709551615) : Both2 49 81 .i64 #[.int .u64 p, .int .i64 R] := by
  by_cases h : PosOk p R
  · obtain ⟨R, rfl, hR, h2⟩ := h.nat
    exact ⟨_, _, fun w => to_q (row_yes p R w hR h2), fun w => to_q (refRow_yes p R w hR h2)⟩
  · exact ⟨_, _, fun w => to_q (row_no p R w hp h), fun w => to_q (refRow_no p R w hp h)⟩
theorem parent_both (p : Nat) (R : Int) (hp : (p : Int) ≤ 18446744073709551615) : Both2 39 58 .u64 #[.int .u64 p, .int .i64 R] := by
  by_cases h : PosOk p R ∧ p + 2 < 2 ^ (R.toNat + 1)
  · obtain ⟨R, rfl, hR, _⟩ := h.1.nat
    have h2 := h.2
    rw [Int.toNat_natCast] at h2
    exact ⟨_, _, fun w => to_q (parent_yes p R w hR h2), fun w => refParent_yes p R w hR h2⟩
  · exact ⟨_, _, fun w => to_q (parent_no p R w hp h), fun w => refParent_no p R w hp h⟩
theorem sib_both (p : Nat) (R : Int) (hp : (p : Int) ≤ 18446744073709551615) : Both2 26 31 .u64 #[.int .u64 p, .int .i64 R] := by
  by_cases h : PosOk p R ∧ p + 2 < 2 ^ (R.toNat + 1)
  · obtain ⟨R, rfl, hR, _⟩ := h.1.nat
    have h2 := h.2
    rw [Int.toNat_natCast] at h2
    exact ⟨_, _, fun w => to_q (sib_yes p R w hR h2), fun w => refSib_yes p R w hR h2⟩
  · exact ⟨_, _, fun w => to_q (sib_no p R w hp h), fun w => refSib_no p R w hp h⟩
theorem rows_both (n : Nat) : Both2 35 46 .i64 #[.int .u64 n] := by
  by_cases h : (n : Int) ≤ 9223372036854775807
  · exact ⟨_, _, fun w => to_q (rows_yes n w h), fun w => to_q (refRows_yes n w h)⟩
  · exact ⟨_, _, fun w => to_q (rows_no n w h), fun w => to_q (refRows_no n w h)⟩
theorem root_both (n : Nat) (h : Int) (hn : (n : Int) ≤ 18446744073709551615) : Both2 38 57 .u64 #[.int .u64 n, .int .i64 h] := by
  by_cases hb : HasTree n h
  · obtain ⟨h1, h2, h3⟩ := hb
    obtain ⟨h, rfl⟩ := Int.eq_ofNat_of_zero_le h2
    rw [Int.toNat_natCast] at h3
    exact ⟨_, _, fun w => root_yes n h w (by omega) h3, fun w => refRoot_yes n h w (by omega) h3⟩
  · exact ⟨_, _, fun w => root_no n h w hn hb, fun w => refRoot_no n h w hn hb⟩

/-! ### The chapter's answers -/
end Go.Proofs.Ytnokhajjcjfbpaa
